/- Typed functions of this seat, each with the proof that the code computes it; by program (tg3.py). -/
import Derived.Test.YtchiiiahgmfofaaCode
import Derived.Test.YtchiiiahgmfofaaVu
import Derived.KernelRfl
import Derived.Test.YtchiiiahgmfofaaTe
namespace Go.Proofs.Ytchiiiahgmfofaa
open Go Go.Vv Go.Proofs
set_option linter.unusedSimpArgs false
set_option linter.unusedVariables false
set_option maxRecDepth 100000
set_option maxHeartbeats 4000000

/-! additiveref35.Valid -/
attribute [simp] c81_0 c81_1 c81_2 c81_3 c81_4 c81_5 c81_6 c81_7 c81_8 c81_9
def t_additiveref35_Valid (p0 : api_Settings) : Option Bool := (if (bor (bor (bor (bnot (u_additiveref35_in p0.Pitch 32 1024)) (ine (irem p0.Pitch 2) 0)) (bnot (u_additiveref35_in p0.Height 4 1024))) (ine (irem p0.Height 2) 0)) = true then some false
 else (if (bor (bor (bor (bor (bnot (u_additiveref35_in p0.Walls 0 8)) (bnot (u_additiveref35_in p0.Top 0 16))) (bnot (u_additiveref35_in p0.Bottom 0 16))) (bnot (u_additiveref35_in p0.Pattern 0 3))) (bnot (u_additiveref35_in p0.Spacing 1 64))) = true then some false
 else (if (bor (bor (bor (bnot (u_additiveref35_in p0.Reach 0 64)) (bnot (u_additiveref35_in p0.Gap 0 64))) (bnot (u_additiveref35_in p0.Brim 0 64))) (bnot (u_additiveref35_in p0.Skirt 0 63))) = true then some false
 else (if (bor (bor (bor (bnot (u_additiveref35_in p0.Drop 1 1073741824)) (bnot (u_additiveref35_in p0.Feed 1 1048576))) (bnot (u_additiveref35_in p0.Travel 1 1048576))) (bnot (u_additiveref35_in p0.Retract 0 65536))) = true then some false
 else some (band (band (band (u_additiveref35_in p0.MinTime 0 1048576) (u_additiveref35_in p0.MinFeed 1 p0.Feed)) (u_additiveref35_in p0.Nozzle 0 400000)) (u_additiveref35_in p0.Bed 0 400000))))))
theorem t_additiveref35_Valid_ok {p0 : api_Settings} {r : Bool} (h : t_additiveref35_Valid p0 = some r) : FC env 81 [.agg [.int .i64 p0.Pitch, .int .i64 p0.Height, .int .i64 p0.Walls, .int .i64 p0.Top, .int .i64 p0.Bottom, .int .i64 p0.Pattern, .int .i64 p0.Spacing, .bool p0.Support, .int .i64 p0.Reach, .int .i64 p0.Gap, .int .i64 p0.Brim, .int .i64 p0.Skirt, .int .i64 p0.Drop, .int .i64 p0.Feed, .int .i64 p0.Travel, .int .i64 p0.Retract, .int .i64 p0.MinTime, .int .i64 p0.MinFeed, .int .i64 p0.Nozzle, .int .i64 p0.Bed]] none = some (.bool r, fun _ => none) := by
 unfold t_additiveref35_Valid at h
 have f1 := u_additiveref35_in_ok p0.Pitch 32 1024
 have f2 := u_additiveref35_in_ok p0.Height 4 1024
 by_cases c3 : (bor (bor (bor (bnot (u_additiveref35_in p0.Pitch 32 1024)) (ine (irem p0.Pitch 2) 0)) (bnot (u_additiveref35_in p0.Height 4 1024))) (ine (irem p0.Height 2) 0)) = true
 · rw [if_pos c3] at h
   cases h
   refine FC_pure (lf := lf81) rfl rfl rfl ?_
   simp only [lf81, lc81]
   rcases tof (u_additiveref35_in p0.Pitch 32 1024) with a4 | a4
   · rcases tof (ine (irem p0.Pitch 2) 0) with a5 | a5
     · simp (maxSteps := 4000000) [a4, a5, f1, (show ieq 2 0 = false from rfl), f2, (show ieq 2 0 = false from rfl)]
     · rcases tof (u_additiveref35_in p0.Height 4 1024) with a6 | a6
       · rcases tof (ine (irem p0.Height 2) 0) with a7 | a7
         · simp (maxSteps := 4000000) [a4, a5, a6, a7, f1, (show ieq 2 0 = false from rfl), f2, (show ieq 2 0 = false from rfl)]
         · simp [a4, a5, a6, a7] at c3
       · simp (maxSteps := 4000000) [a4, a5, a6, f1, (show ieq 2 0 = false from rfl), f2, (show ieq 2 0 = false from rfl)]
   · simp (maxSteps := 4000000) [a4, f1, (show ieq 2 0 = false from rfl), f2, (show ieq 2 0 = false from rfl)]
 · rw [if_neg c3] at h
   rw [Bool.not_eq_true] at c3
   have f8 := u_additiveref35_in_ok p0.Walls 0 8
   have f9 := u_additiveref35_in_ok p0.Top 0 16
   have f10 := u_additiveref35_in_ok p0.Bottom 0 16
   have f11 := u_additiveref35_in_ok p0.Pattern 0 3
   have f12 := u_additiveref35_in_ok p0.Spacing 1 64
   by_cases c13 : (bor (bor (bor (bor (bnot (u_additiveref35_in p0.Walls 0 8)) (bnot (u_additiveref35_in p0.Top 0 16))) (bnot (u_additiveref35_in p0.Bottom 0 16))) (bnot (u_additiveref35_in p0.Pattern 0 3))) (bnot (u_additiveref35_in p0.Spacing 1 64))) = true
   · rw [if_pos c13] at h
     cases h
     refine FC_pure (lf := lf81) rfl rfl rfl ?_
     simp only [lf81, lc81]
     rcases tof (u_additiveref35_in p0.Pitch 32 1024) with a14 | a14
     · rcases tof (ine (irem p0.Pitch 2) 0) with a15 | a15
       · simp [a14, a15] at c3
       · rcases tof (u_additiveref35_in p0.Height 4 1024) with a16 | a16
         · rcases tof (ine (irem p0.Height 2) 0) with a17 | a17
           · simp [a14, a15, a16, a17] at c3
           · rcases tof (u_additiveref35_in p0.Walls 0 8) with a18 | a18
             · rcases tof (u_additiveref35_in p0.Top 0 16) with a19 | a19
               · rcases tof (u_additiveref35_in p0.Bottom 0 16) with a20 | a20
                 · rcases tof (u_additiveref35_in p0.Pattern 0 3) with a21 | a21
                   · rcases tof (u_additiveref35_in p0.Spacing 1 64) with a22 | a22
                     · simp [a14, a15, a16, a17, a18, a19, a20, a21, a22] at c13
                     · simp (maxSteps := 4000000) [a14, a15, a16, a17, a18, a19, a20, a21, a22, f1, (show ieq 2 0 = false from rfl), f2, (show ieq 2 0 = false from rfl), f8, f9, f10, f11, f12]
                   · simp (maxSteps := 4000000) [a14, a15, a16, a17, a18, a19, a20, a21, f1, (show ieq 2 0 = false from rfl), f2, (show ieq 2 0 = false from rfl), f8, f9, f10, f11, f12]
                 · simp (maxSteps := 4000000) [a14, a15, a16, a17, a18, a19, a20, f1, (show ieq 2 0 = false from rfl), f2, (show ieq 2 0 = false from rfl), f8, f9, f10, f11, f12]
               · simp (maxSteps := 4000000) [a14, a15, a16, a17, a18, a19, f1, (show ieq 2 0 = false from rfl), f2, (show ieq 2 0 = false from rfl), f8, f9, f10, f11, f12]
             · simp (maxSteps := 4000000) [a14, a15, a16, a17, a18, f1, (show ieq 2 0 = false from rfl), f2, (show ieq 2 0 = false from rfl), f8, f9, f10, f11, f12]
         · simp [a14, a15, a16] at c3
     · simp [a14] at c3
   · rw [if_neg c13] at h
     rw [Bool.not_eq_true] at c13
     have f23 := u_additiveref35_in_ok p0.Reach 0 64
     have f24 := u_additiveref35_in_ok p0.Gap 0 64
     have f25 := u_additiveref35_in_ok p0.Brim 0 64
     have f26 := u_additiveref35_in_ok p0.Skirt 0 63
     by_cases c27 : (bor (bor (bor (bnot (u_additiveref35_in p0.Reach 0 64)) (bnot (u_additiveref35_in p0.Gap 0 64))) (bnot (u_additiveref35_in p0.Brim 0 64))) (bnot (u_additiveref35_in p0.Skirt 0 63))) = true
     · rw [if_pos c27] at h
       cases h
       refine FC_pure (lf := lf81) rfl rfl rfl ?_
       simp only [lf81, lc81]
       rcases tof (u_additiveref35_in p0.Pitch 32 1024) with a28 | a28
       · rcases tof (ine (irem p0.Pitch 2) 0) with a29 | a29
         · simp [a28, a29] at c3
         · rcases tof (u_additiveref35_in p0.Height 4 1024) with a30 | a30
           · rcases tof (ine (irem p0.Height 2) 0) with a31 | a31
             · simp [a28, a29, a30, a31] at c3
             · rcases tof (u_additiveref35_in p0.Walls 0 8) with a32 | a32
               · rcases tof (u_additiveref35_in p0.Top 0 16) with a33 | a33
                 · rcases tof (u_additiveref35_in p0.Bottom 0 16) with a34 | a34
                   · rcases tof (u_additiveref35_in p0.Pattern 0 3) with a35 | a35
                     · rcases tof (u_additiveref35_in p0.Spacing 1 64) with a36 | a36
                       · rcases tof (u_additiveref35_in p0.Reach 0 64) with a37 | a37
                         · rcases tof (u_additiveref35_in p0.Gap 0 64) with a38 | a38
                           · rcases tof (u_additiveref35_in p0.Brim 0 64) with a39 | a39
                             · rcases tof (u_additiveref35_in p0.Skirt 0 63) with a40 | a40
                               · simp [a28, a29, a30, a31, a32, a33, a34, a35, a36, a37, a38, a39, a40] at c27
                               · simp (maxSteps := 4000000) [a28, a29, a30, a31, a32, a33, a34, a35, a36, a37, a38, a39, a40, f1, (show ieq 2 0 = false from rfl), f2, (show ieq 2 0 = false from rfl), f8, f9, f10, f11, f12, f23, f24, f25, f26]
                             · simp (maxSteps := 4000000) [a28, a29, a30, a31, a32, a33, a34, a35, a36, a37, a38, a39, f1, (show ieq 2 0 = false from rfl), f2, (show ieq 2 0 = false from rfl), f8, f9, f10, f11, f12, f23, f24, f25, f26]
                           · simp (maxSteps := 4000000) [a28, a29, a30, a31, a32, a33, a34, a35, a36, a37, a38, f1, (show ieq 2 0 = false from rfl), f2, (show ieq 2 0 = false from rfl), f8, f9, f10, f11, f12, f23, f24, f25, f26]
                         · simp (maxSteps := 4000000) [a28, a29, a30, a31, a32, a33, a34, a35, a36, a37, f1, (show ieq 2 0 = false from rfl), f2, (show ieq 2 0 = false from rfl), f8, f9, f10, f11, f12, f23, f24, f25, f26]
                       · simp [a28, a29, a30, a31, a32, a33, a34, a35, a36] at c13
                     · simp [a28, a29, a30, a31, a32, a33, a34, a35] at c13
                   · simp [a28, a29, a30, a31, a32, a33, a34] at c13
                 · simp [a28, a29, a30, a31, a32, a33] at c13
               · simp [a28, a29, a30, a31, a32] at c13
           · simp [a28, a29, a30] at c3
       · simp [a28] at c3
     · rw [if_neg c27] at h
       rw [Bool.not_eq_true] at c27
       have f41 := u_additiveref35_in_ok p0.Drop 1 1073741824
       have f42 := u_additiveref35_in_ok p0.Feed 1 1048576
       have f43 := u_additiveref35_in_ok p0.Travel 1 1048576
       have f44 := u_additiveref35_in_ok p0.Retract 0 65536
       by_cases c45 : (bor (bor (bor (bnot (u_additiveref35_in p0.Drop 1 1073741824)) (bnot (u_additiveref35_in p0.Feed 1 1048576))) (bnot (u_additiveref35_in p0.Travel 1 1048576))) (bnot (u_additiveref35_in p0.Retract 0 65536))) = true
       · rw [if_pos c45] at h
         cases h
         refine FC_pure (lf := lf81) rfl rfl rfl ?_
         simp only [lf81, lc81]
         rcases tof (u_additiveref35_in p0.Pitch 32 1024) with a46 | a46
         · rcases tof (ine (irem p0.Pitch 2) 0) with a47 | a47
           · simp [a46, a47] at c3
           · rcases tof (u_additiveref35_in p0.Height 4 1024) with a48 | a48
             · rcases tof (ine (irem p0.Height 2) 0) with a49 | a49
               · simp [a46, a47, a48, a49] at c3
               · rcases tof (u_additiveref35_in p0.Walls 0 8) with a50 | a50
                 · rcases tof (u_additiveref35_in p0.Top 0 16) with a51 | a51
                   · rcases tof (u_additiveref35_in p0.Bottom 0 16) with a52 | a52
                     · rcases tof (u_additiveref35_in p0.Pattern 0 3) with a53 | a53
                       · rcases tof (u_additiveref35_in p0.Spacing 1 64) with a54 | a54
                         · rcases tof (u_additiveref35_in p0.Reach 0 64) with a55 | a55
                           · rcases tof (u_additiveref35_in p0.Gap 0 64) with a56 | a56
                             · rcases tof (u_additiveref35_in p0.Brim 0 64) with a57 | a57
                               · rcases tof (u_additiveref35_in p0.Skirt 0 63) with a58 | a58
                                 · rcases tof (u_additiveref35_in p0.Drop 1 1073741824) with a59 | a59
                                   · rcases tof (u_additiveref35_in p0.Feed 1 1048576) with a60 | a60
                                     · rcases tof (u_additiveref35_in p0.Travel 1 1048576) with a61 | a61
                                       · rcases tof (u_additiveref35_in p0.Retract 0 65536) with a62 | a62
                                         · simp [a46, a47, a48, a49, a50, a51, a52, a53, a54, a55, a56, a57, a58, a59, a60, a61, a62] at c45
                                         · simp (maxSteps := 4000000) [a46, a47, a48, a49, a50, a51, a52, a53, a54, a55, a56, a57, a58, a59, a60, a61, a62, f1, (show ieq 2 0 = false from rfl), f2, (show ieq 2 0 = false from rfl), f8, f9, f10, f11, f12, f23, f24, f25, f26, f41, f42, f43, f44]
                                       · simp (maxSteps := 4000000) [a46, a47, a48, a49, a50, a51, a52, a53, a54, a55, a56, a57, a58, a59, a60, a61, f1, (show ieq 2 0 = false from rfl), f2, (show ieq 2 0 = false from rfl), f8, f9, f10, f11, f12, f23, f24, f25, f26, f41, f42, f43, f44]
                                     · simp (maxSteps := 4000000) [a46, a47, a48, a49, a50, a51, a52, a53, a54, a55, a56, a57, a58, a59, a60, f1, (show ieq 2 0 = false from rfl), f2, (show ieq 2 0 = false from rfl), f8, f9, f10, f11, f12, f23, f24, f25, f26, f41, f42, f43, f44]
                                   · simp (maxSteps := 4000000) [a46, a47, a48, a49, a50, a51, a52, a53, a54, a55, a56, a57, a58, a59, f1, (show ieq 2 0 = false from rfl), f2, (show ieq 2 0 = false from rfl), f8, f9, f10, f11, f12, f23, f24, f25, f26, f41, f42, f43, f44]
                                 · simp [a46, a47, a48, a49, a50, a51, a52, a53, a54, a55, a56, a57, a58] at c27
                               · simp [a46, a47, a48, a49, a50, a51, a52, a53, a54, a55, a56, a57] at c27
                             · simp [a46, a47, a48, a49, a50, a51, a52, a53, a54, a55, a56] at c27
                           · simp [a46, a47, a48, a49, a50, a51, a52, a53, a54, a55] at c27
                         · simp [a46, a47, a48, a49, a50, a51, a52, a53, a54] at c13
                       · simp [a46, a47, a48, a49, a50, a51, a52, a53] at c13
                     · simp [a46, a47, a48, a49, a50, a51, a52] at c13
                   · simp [a46, a47, a48, a49, a50, a51] at c13
                 · simp [a46, a47, a48, a49, a50] at c13
             · simp [a46, a47, a48] at c3
         · simp [a46] at c3
       · rw [if_neg c45] at h
         rw [Bool.not_eq_true] at c45
         have f63 := u_additiveref35_in_ok p0.MinTime 0 1048576
         have f64 := u_additiveref35_in_ok p0.MinFeed 1 p0.Feed
         have f65 := u_additiveref35_in_ok p0.Nozzle 0 400000
         have f66 := u_additiveref35_in_ok p0.Bed 0 400000
         cases h
         refine FC_pure (lf := lf81) rfl rfl rfl ?_
         simp only [lf81, lc81]
         rcases tof (u_additiveref35_in p0.Pitch 32 1024) with a67 | a67
         · rcases tof (ine (irem p0.Pitch 2) 0) with a68 | a68
           · simp [a67, a68] at c3
           · rcases tof (u_additiveref35_in p0.Height 4 1024) with a69 | a69
             · rcases tof (ine (irem p0.Height 2) 0) with a70 | a70
               · simp [a67, a68, a69, a70] at c3
               · rcases tof (u_additiveref35_in p0.Walls 0 8) with a71 | a71
                 · rcases tof (u_additiveref35_in p0.Top 0 16) with a72 | a72
                   · rcases tof (u_additiveref35_in p0.Bottom 0 16) with a73 | a73
                     · rcases tof (u_additiveref35_in p0.Pattern 0 3) with a74 | a74
                       · rcases tof (u_additiveref35_in p0.Spacing 1 64) with a75 | a75
                         · rcases tof (u_additiveref35_in p0.Reach 0 64) with a76 | a76
                           · rcases tof (u_additiveref35_in p0.Gap 0 64) with a77 | a77
                             · rcases tof (u_additiveref35_in p0.Brim 0 64) with a78 | a78
                               · rcases tof (u_additiveref35_in p0.Skirt 0 63) with a79 | a79
                                 · rcases tof (u_additiveref35_in p0.Drop 1 1073741824) with a80 | a80
                                   · rcases tof (u_additiveref35_in p0.Feed 1 1048576) with a81 | a81
                                     · rcases tof (u_additiveref35_in p0.Travel 1 1048576) with a82 | a82
                                       · rcases tof (u_additiveref35_in p0.Retract 0 65536) with a83 | a83
                                         · rcases tof (u_additiveref35_in p0.MinTime 0 1048576) with a84 | a84
                                           · rcases tof (u_additiveref35_in p0.MinFeed 1 p0.Feed) with a85 | a85
                                             · rcases tof (u_additiveref35_in p0.Nozzle 0 400000) with a86 | a86
                                               · simp (maxSteps := 4000000) [a67, a68, a69, a70, a71, a72, a73, a74, a75, a76, a77, a78, a79, a80, a81, a82, a83, a84, a85, a86, f1, (show ieq 2 0 = false from rfl), f2, (show ieq 2 0 = false from rfl), f8, f9, f10, f11, f12, f23, f24, f25, f26, f41, f42, f43, f44, f63, f64, f65, f66]
                                               · simp (maxSteps := 4000000) [a67, a68, a69, a70, a71, a72, a73, a74, a75, a76, a77, a78, a79, a80, a81, a82, a83, a84, a85, a86, f1, (show ieq 2 0 = false from rfl), f2, (show ieq 2 0 = false from rfl), f8, f9, f10, f11, f12, f23, f24, f25, f26, f41, f42, f43, f44, f63, f64, f65, f66]
                                             · simp (maxSteps := 4000000) [a67, a68, a69, a70, a71, a72, a73, a74, a75, a76, a77, a78, a79, a80, a81, a82, a83, a84, a85, f1, (show ieq 2 0 = false from rfl), f2, (show ieq 2 0 = false from rfl), f8, f9, f10, f11, f12, f23, f24, f25, f26, f41, f42, f43, f44, f63, f64, f65, f66]
                                           · simp (maxSteps := 4000000) [a67, a68, a69, a70, a71, a72, a73, a74, a75, a76, a77, a78, a79, a80, a81, a82, a83, a84, f1, (show ieq 2 0 = false from rfl), f2, (show ieq 2 0 = false from rfl), f8, f9, f10, f11, f12, f23, f24, f25, f26, f41, f42, f43, f44, f63, f64, f65, f66]
                                         · simp [a67, a68, a69, a70, a71, a72, a73, a74, a75, a76, a77, a78, a79, a80, a81, a82, a83] at c45
                                       · simp [a67, a68, a69, a70, a71, a72, a73, a74, a75, a76, a77, a78, a79, a80, a81, a82] at c45
                                     · simp [a67, a68, a69, a70, a71, a72, a73, a74, a75, a76, a77, a78, a79, a80, a81] at c45
                                   · simp [a67, a68, a69, a70, a71, a72, a73, a74, a75, a76, a77, a78, a79, a80] at c45
                                 · simp [a67, a68, a69, a70, a71, a72, a73, a74, a75, a76, a77, a78, a79] at c27
                               · simp [a67, a68, a69, a70, a71, a72, a73, a74, a75, a76, a77, a78] at c27
                             · simp [a67, a68, a69, a70, a71, a72, a73, a74, a75, a76, a77] at c27
                           · simp [a67, a68, a69, a70, a71, a72, a73, a74, a75, a76] at c27
                         · simp [a67, a68, a69, a70, a71, a72, a73, a74, a75] at c13
                       · simp [a67, a68, a69, a70, a71, a72, a73, a74] at c13
                     · simp [a67, a68, a69, a70, a71, a72, a73] at c13
                   · simp [a67, a68, a69, a70, a71, a72] at c13
                 · simp [a67, a68, a69, a70, a71] at c13
             · simp [a67, a68, a69] at c3
         · simp [a67] at c3

/-! additiveref35.Volume -/
attribute [simp] c82_0 c82_1 c82_2 c82_3
def t_additiveref35_Volume (p0 : Int) (p1 : api_Settings) : Option Int := (match t_additiveref35_Valid p1 with
 | none => none
 | some v3 => (if (bor (bnot v3) (bnot (u_additiveref35_in p0 0 1048576))) = true then some 0
 else some (imul .i64 (imul .i64 (imul .i64 p0 p1.Pitch) p1.Pitch) p1.Height)))
theorem t_additiveref35_Volume_ok {p0 : Int} {p1 : api_Settings} {r : Int} (h : t_additiveref35_Volume p0 p1 = some r) : FC env 82 [.int .i64 p0, .agg [.int .i64 p1.Pitch, .int .i64 p1.Height, .int .i64 p1.Walls, .int .i64 p1.Top, .int .i64 p1.Bottom, .int .i64 p1.Pattern, .int .i64 p1.Spacing, .bool p1.Support, .int .i64 p1.Reach, .int .i64 p1.Gap, .int .i64 p1.Brim, .int .i64 p1.Skirt, .int .i64 p1.Drop, .int .i64 p1.Feed, .int .i64 p1.Travel, .int .i64 p1.Retract, .int .i64 p1.MinTime, .int .i64 p1.MinFeed, .int .i64 p1.Nozzle, .int .i64 p1.Bed]] none = some (.int .i64 r, fun _ => none) := by
 unfold t_additiveref35_Volume at h
 cases h2 : t_additiveref35_Valid p1 with
 | none => (rw [h2] at h; cases h)
 | some v3 =>
  simp only [h2] at h
  have f1 := t_additiveref35_Valid_ok h2
  have f4 := u_additiveref35_in_ok p0 0 1048576
  by_cases c5 : (bor (bnot v3) (bnot (u_additiveref35_in p0 0 1048576))) = true
  · rw [if_pos c5] at h
    cases h
    refine FC_pure (lf := lf82) rfl rfl rfl ?_
    simp only [lf82, lc82]
    rcases tof v3 with a6 | a6
    · rcases tof (u_additiveref35_in p0 0 1048576) with a7 | a7
      · simp [a6, a7] at c5
      · simp (maxSteps := 4000000) [a6, a7, f1, f4]
    · simp (maxSteps := 4000000) [a6, f1, f4]
  · rw [if_neg c5] at h
    rw [Bool.not_eq_true] at c5
    cases h
    refine FC_pure (lf := lf82) rfl rfl rfl ?_
    simp only [lf82, lc82]
    rcases tof v3 with a8 | a8
    · rcases tof (u_additiveref35_in p0 0 1048576) with a9 | a9
      · simp (maxSteps := 4000000) [a8, a9, f1, f4]
      · simp [a8, a9] at c5
    · simp [a8] at c5

/-! additiveref35.Amounts -/
attribute [simp] c41_0 c41_1 c41_2 c41_3 c41_4 c41_5 c41_6 c41_7 c41_8 c41_9 c41_10 c41_11 c41_12 c41_13 c41_14 c41_15 c41_16 c41_17 c41_18 c41_19 c41_20 c41_21 c41_22 c41_23 c41_25
theorem c41_L0_u (Γ : Env) (ps : List Nat) (σ : St) : EC Γ ps 0 c41_L0 σ = EC Γ ps 0 (.seq (.seq (.reg false c41_7) (.cond (.t 18) .skip (.seq (.trim [6]) (.exit 0)))) (.seq (.blk 1 (.seq (.reg false c41_8) (.seq (.seq (.reg false c41_9) (.cond (.t 42) (.seq (.reg false c41_10) (.seq (.trim [4, 5]) .ret)) .skip)) (.seq (.seq (.reg false c41_11) (.cond (.t 44) (.reg false c41_12) .skip)) (.seq (.seq (.reg false c41_13) (.cond (.t 54) (.seq (.reg false c41_14) (.seq (.trim [4, 5]) .ret)) .skip)) (.seq (.seq (.reg false c41_15) (.cond (.t 56) (.reg false c41_16) .skip)) (.seq (.seq (.reg false c41_17) (.cond (.t 58) (.reg false c41_18) .skip)) (.seq (.reg true c41_19) (.seq (.seq (.reg false c41_20) (.cond (.t 65) (.reg false c41_21) .skip)) (.reg false c41_22)))))))))) (.reg false c41_23))) σ := rfl
attribute [simp ↓] c41_L0_u
def t_additiveref35_Amounts_L0 (k0 : (FS api_Op)) (k1 : api_Settings) (s : ((FS Int) × Int × Bool × Int)) : Option (LR ((FS Int) × Int × Bool × Int) (((FS Int) × Int) ⊕ (FS Int))) := match s with
 | (s0, s1, s2, s3) => (if (ilt s3 (flen k0)) = true then (match fget k0 s3 with
 | none => none
 | some v8 => (if (bor (band s2 (bor (ieq v8.Kind 3) (ieq v8.Kind 4))) (band (bnot s2) (ieq v8.Kind 5))) = true then some (.dn (.inl ((FS.nil : (FS Int)), 11)))
 else (if (ieq v8.Kind 3) = true then (if (igt (iadd .i64 s1 (flen v8.Cells)) 1048576) = true then some (.dn (.inl ((FS.nil : (FS Int)), 2)))
 else (if (ieq v8.Kind 4) = true then (if (ieq v8.Kind 5) = true then (match t_additiveref35_Volume (iadd .i64 s1 (flen v8.Cells)) k1 with
 | none => none
 | some v17 => (if ieq k1.Drop 0 = true then none else (if fits 8 ((flen s0) + 1) = true then some (.nx ((fsnoc s0 (iquo .i64 v17 k1.Drop)), (iadd .i64 s1 (flen v8.Cells)), false, (iadd .i64 s3 1))) else none)))
 else (match t_additiveref35_Volume (iadd .i64 s1 (flen v8.Cells)) k1 with
 | none => none
 | some v23 => (if ieq k1.Drop 0 = true then none else (if fits 8 ((flen s0) + 1) = true then some (.nx ((fsnoc s0 (isub .i64 (iquo .i64 v23 k1.Drop) k1.Retract)), (iadd .i64 s1 (flen v8.Cells)), true, (iadd .i64 s3 1))) else none))))
 else (if (ieq v8.Kind 5) = true then (match t_additiveref35_Volume (iadd .i64 s1 (flen v8.Cells)) k1 with
 | none => none
 | some v30 => (if ieq k1.Drop 0 = true then none else (if fits 8 ((flen s0) + 1) = true then some (.nx ((fsnoc s0 (iquo .i64 v30 k1.Drop)), (iadd .i64 s1 (flen v8.Cells)), false, (iadd .i64 s3 1))) else none)))
 else (match t_additiveref35_Volume (iadd .i64 s1 (flen v8.Cells)) k1 with
 | none => none
 | some v36 => (if ieq k1.Drop 0 = true then none else (if s2 = true then (if fits 8 ((flen s0) + 1) = true then some (.nx ((fsnoc s0 (isub .i64 (iquo .i64 v36 k1.Drop) k1.Retract)), (iadd .i64 s1 (flen v8.Cells)), s2, (iadd .i64 s3 1))) else none)
 else (if fits 8 ((flen s0) + 1) = true then some (.nx ((fsnoc s0 (iquo .i64 v36 k1.Drop)), (iadd .i64 s1 (flen v8.Cells)), s2, (iadd .i64 s3 1))) else none)))))))
 else (if (igt s1 1048576) = true then some (.dn (.inl ((FS.nil : (FS Int)), 2)))
 else (if (ieq v8.Kind 4) = true then (if (ieq v8.Kind 5) = true then (match t_additiveref35_Volume s1 k1 with
 | none => none
 | some v48 => (if ieq k1.Drop 0 = true then none else (if fits 8 ((flen s0) + 1) = true then some (.nx ((fsnoc s0 (iquo .i64 v48 k1.Drop)), s1, false, (iadd .i64 s3 1))) else none)))
 else (match t_additiveref35_Volume s1 k1 with
 | none => none
 | some v54 => (if ieq k1.Drop 0 = true then none else (if fits 8 ((flen s0) + 1) = true then some (.nx ((fsnoc s0 (isub .i64 (iquo .i64 v54 k1.Drop) k1.Retract)), s1, true, (iadd .i64 s3 1))) else none))))
 else (if (ieq v8.Kind 5) = true then (match t_additiveref35_Volume s1 k1 with
 | none => none
 | some v61 => (if ieq k1.Drop 0 = true then none else (if fits 8 ((flen s0) + 1) = true then some (.nx ((fsnoc s0 (iquo .i64 v61 k1.Drop)), s1, false, (iadd .i64 s3 1))) else none)))
 else (match t_additiveref35_Volume s1 k1 with
 | none => none
 | some v67 => (if ieq k1.Drop 0 = true then none else (if s2 = true then (if fits 8 ((flen s0) + 1) = true then some (.nx ((fsnoc s0 (isub .i64 (iquo .i64 v67 k1.Drop) k1.Retract)), s1, s2, (iadd .i64 s3 1))) else none)
 else (if fits 8 ((flen s0) + 1) = true then some (.nx ((fsnoc s0 (iquo .i64 v67 k1.Drop)), s1, s2, (iadd .i64 s3 1))) else none))))))))))
 else some (.dn (.inr s0)))
def t_additiveref35_Amounts_L0_st (k0 : (FS api_Op)) (k1 : api_Settings) (s : ((FS Int) × Int × Bool × Int)) : St := match s with
 | (s0, s1, s2, s3) => (fcase s0 (⟨fr [(0, encF e_api_Op k0), (3, .ptr 3 0 0), (6, .nils), (7, .int .i64 s1), (8, .bool s2), (9, .int .i64 s3)], hl [(3, .box 0 [.int .i64 k1.Pitch, .int .i64 k1.Height, .int .i64 k1.Walls, .int .i64 k1.Top, .int .i64 k1.Bottom, .int .i64 k1.Pattern, .int .i64 k1.Spacing, .bool k1.Support, .int .i64 k1.Reach, .int .i64 k1.Gap, .int .i64 k1.Brim, .int .i64 k1.Skirt, .int .i64 k1.Drop, .int .i64 k1.Feed, .int .i64 k1.Travel, .int .i64 k1.Retract, .int .i64 k1.MinTime, .int .i64 k1.MinFeed, .int .i64 k1.Nozzle, .int .i64 k1.Bed])]⟩)
  (fun l0 => ⟨fr [(0, encF e_api_Op k0), (3, .ptr 3 0 0), (6, .arr 6 0 0 l0.l.length), (7, .int .i64 s1), (8, .bool s2), (9, .int .i64 s3)], hl [(3, .box 0 [.int .i64 k1.Pitch, .int .i64 k1.Height, .int .i64 k1.Walls, .int .i64 k1.Top, .int .i64 k1.Bottom, .int .i64 k1.Pattern, .int .i64 k1.Spacing, .bool k1.Support, .int .i64 k1.Reach, .int .i64 k1.Gap, .int .i64 k1.Brim, .int .i64 k1.Skirt, .int .i64 k1.Drop, .int .i64 k1.Feed, .int .i64 k1.Travel, .int .i64 k1.Retract, .int .i64 k1.MinTime, .int .i64 k1.MinFeed, .int .i64 k1.Nozzle, .int .i64 k1.Bed]), (6, .arr 0 1 3 (cellsE e_i64 l0.l) false)]⟩))
def t_additiveref35_Amounts_L0_out (k0 : (FS api_Op)) (k1 : api_Settings) (x : (((FS Int) × Int) ⊕ (FS Int))) : LE × St := match x with
 | .inl x => (.ret, ⟨fr [(4, .nils), (5, .int .i64 x.2)], hl []⟩)
 | .inr x => (fcase x (.exit 0, ⟨fr [(6, .nils)], hl []⟩)
  (fun l0 => (.exit 0, ⟨fr [(6, .arr 6 0 0 l0.l.length)], hl [(6, .arr 0 1 3 (cellsE e_i64 l0.l) false)]⟩)))
theorem t_additiveref35_Amounts_L0_ok {k0 : (FS api_Op)} {k1 : api_Settings} {s : ((FS Int) × Int × Bool × Int)} {r : (((FS Int) × Int) ⊕ (FS Int))} (h : loopT (t_additiveref35_Amounts_L0 k0 k1) bigN s = some r) : LK env [] 0 [0, 3, 6, 7, 8, 9] c41_L0 (some (t_additiveref35_Amounts_L0_st k0 k1 s)) = some (t_additiveref35_Amounts_L0_out k0 k1 r) := loop_walk (st := t_additiveref35_Amounts_L0_st k0 k1) (out := t_additiveref35_Amounts_L0_out k0 k1) (by
 clear h s r
 rintro ⟨s0, s1, s2, s3⟩ x h
 simp only [t_additiveref35_Amounts_L0] at h
 cases e7 : s0 with
 | nil =>
  try simp only [e7, flen_nil] at h
  by_cases c8 : (ilt s3 (flen k0)) = true
  · rw [if_pos c8] at h
    cases h10 : fget k0 s3 with
    | none => (rw [h10] at h; cases h)
    | some v11 =>
     simp only [h10] at h
     have f9 := iaddr_F (e := e_api_Op) h10
     by_cases c12 : (bor (band s2 (bor (ieq v11.Kind 3) (ieq v11.Kind 4))) (band (bnot s2) (ieq v11.Kind 5))) = true
     · rw [if_pos c12] at h
       cases h
       show LK env [] 0 [0, 3, 6, 7, 8, 9] c41_L0 (some (t_additiveref35_Amounts_L0_st _ _ _)) = some (t_additiveref35_Amounts_L0_out _ _ _)
       simp only [t_additiveref35_Amounts_L0_st, t_additiveref35_Amounts_L0_out, e7]
       rw [LK_step]
       rcases tof s2 with a13 | a13
       · rcases tof (ieq v11.Kind 3) with a14 | a14
         · simp (maxSteps := 4000000) [c8, a13, a14, e7, f9]
         · rcases tof (ieq v11.Kind 4) with a15 | a15
           · simp (maxSteps := 4000000) [c8, a13, a14, a15, e7, f9]
           · simp [c8, a13, a14, a15] at c12
       · rcases tof (ieq v11.Kind 5) with a16 | a16
         · simp (maxSteps := 4000000) [c8, a13, a16, e7, f9]
         · simp [c8, a13, a16] at c12
     · rw [if_neg c12] at h
       rw [Bool.not_eq_true] at c12
       by_cases c17 : (ieq v11.Kind 3) = true
       · rw [if_pos c17] at h
         by_cases c19 : (igt (iadd .i64 s1 (flen v11.Cells)) 1048576) = true
         · rw [if_pos c19] at h
           cases h
           show LK env [] 0 [0, 3, 6, 7, 8, 9] c41_L0 (some (t_additiveref35_Amounts_L0_st _ _ _)) = some (t_additiveref35_Amounts_L0_out _ _ _)
           simp only [t_additiveref35_Amounts_L0_st, t_additiveref35_Amounts_L0_out, e7]
           rw [LK_step]
           rcases tof s2 with a20 | a20
           · simp [c8, a20, c17] at c12
           · rcases tof (ieq v11.Kind 5) with a21 | a21
             · simp [c8, a20, a21] at c12
             · simp (maxSteps := 4000000) [c8, a20, a21, c17, c19, e7, f9]
         · rw [if_neg c19] at h
           rw [Bool.not_eq_true] at c19
           by_cases c22 : (ieq v11.Kind 4) = true
           · rw [if_pos c22] at h
             by_cases c23 : (ieq v11.Kind 5) = true
             · rw [if_pos c23] at h
               cases h25 : t_additiveref35_Volume (iadd .i64 s1 (flen v11.Cells)) k1 with
               | none => (rw [h25] at h; cases h)
               | some v26 =>
                simp only [h25] at h
                have f24 := t_additiveref35_Volume_ok h25
                by_cases h27 : ieq k1.Drop 0 = true
                · rw [if_pos h27] at h; cases h
                · rw [if_neg h27] at h
                  rw [Bool.not_eq_true] at h27
                  by_cases h29 : fits 8 (0 + 1) = true
                  · rw [if_pos h29] at h
                    have f28 := fun H g0 hg y => @app_nil _ _ e_i64 _ (iquo .i64 v26 k1.Drop) 8 h29 (by decide) H g0 3 y hg
                    simp only [e_i64] at f28
                    cases h
                    show LK env [] 0 [0, 3, 6, 7, 8, 9] c41_L0 (some (t_additiveref35_Amounts_L0_st _ _ _)) = LK env [] 0 [0, 3, 6, 7, 8, 9] c41_L0 (some (t_additiveref35_Amounts_L0_st _ _ _))
                    simp only [t_additiveref35_Amounts_L0_st, e7]
                    rw [LK_step]
                    rcases tof s2 with a30 | a30
                    · simp [c8, a30, c17] at c12
                    · simp [c8, a30, c23] at c12
                  · rw [if_neg h29] at h; cases h
             · rw [if_neg c23] at h
               rw [Bool.not_eq_true] at c23
               cases h32 : t_additiveref35_Volume (iadd .i64 s1 (flen v11.Cells)) k1 with
               | none => (rw [h32] at h; cases h)
               | some v33 =>
                simp only [h32] at h
                have f31 := t_additiveref35_Volume_ok h32
                by_cases h34 : ieq k1.Drop 0 = true
                · rw [if_pos h34] at h; cases h
                · rw [if_neg h34] at h
                  rw [Bool.not_eq_true] at h34
                  by_cases h36 : fits 8 (0 + 1) = true
                  · rw [if_pos h36] at h
                    have f35 := fun H g0 hg y => @app_nil _ _ e_i64 _ (isub .i64 (iquo .i64 v33 k1.Drop) k1.Retract) 8 h36 (by decide) H g0 3 y hg
                    simp only [e_i64] at f35
                    cases h
                    show LK env [] 0 [0, 3, 6, 7, 8, 9] c41_L0 (some (t_additiveref35_Amounts_L0_st _ _ _)) = LK env [] 0 [0, 3, 6, 7, 8, 9] c41_L0 (some (t_additiveref35_Amounts_L0_st _ _ _))
                    simp only [t_additiveref35_Amounts_L0_st, e7]
                    rw [LK_step]
                    rcases tof s2 with a37 | a37
                    · simp [c8, a37, c17] at c12
                    · simp (maxSteps := 4000000) [c8, a37, c23, c17, c19, c22, e7, f9, f31, h34, f35]
                  · rw [if_neg h36] at h; cases h
           · rw [if_neg c22] at h
             rw [Bool.not_eq_true] at c22
             by_cases c38 : (ieq v11.Kind 5) = true
             · rw [if_pos c38] at h
               cases h40 : t_additiveref35_Volume (iadd .i64 s1 (flen v11.Cells)) k1 with
               | none => (rw [h40] at h; cases h)
               | some v41 =>
                simp only [h40] at h
                have f39 := t_additiveref35_Volume_ok h40
                by_cases h42 : ieq k1.Drop 0 = true
                · rw [if_pos h42] at h; cases h
                · rw [if_neg h42] at h
                  rw [Bool.not_eq_true] at h42
                  by_cases h44 : fits 8 (0 + 1) = true
                  · rw [if_pos h44] at h
                    have f43 := fun H g0 hg y => @app_nil _ _ e_i64 _ (iquo .i64 v41 k1.Drop) 8 h44 (by decide) H g0 3 y hg
                    simp only [e_i64] at f43
                    cases h
                    show LK env [] 0 [0, 3, 6, 7, 8, 9] c41_L0 (some (t_additiveref35_Amounts_L0_st _ _ _)) = LK env [] 0 [0, 3, 6, 7, 8, 9] c41_L0 (some (t_additiveref35_Amounts_L0_st _ _ _))
                    simp only [t_additiveref35_Amounts_L0_st, e7]
                    rw [LK_step]
                    rcases tof s2 with a45 | a45
                    · simp [c8, a45, c17] at c12
                    · simp [c8, a45, c38] at c12
                  · rw [if_neg h44] at h; cases h
             · rw [if_neg c38] at h
               rw [Bool.not_eq_true] at c38
               cases h47 : t_additiveref35_Volume (iadd .i64 s1 (flen v11.Cells)) k1 with
               | none => (rw [h47] at h; cases h)
               | some v48 =>
                simp only [h47] at h
                have f46 := t_additiveref35_Volume_ok h47
                by_cases h49 : ieq k1.Drop 0 = true
                · rw [if_pos h49] at h; cases h
                · rw [if_neg h49] at h
                  rw [Bool.not_eq_true] at h49
                  by_cases c50 : s2 = true
                  · rw [if_pos c50] at h
                    by_cases h52 : fits 8 (0 + 1) = true
                    · rw [if_pos h52] at h
                      have f51 := fun H g0 hg y => @app_nil _ _ e_i64 _ (isub .i64 (iquo .i64 v48 k1.Drop) k1.Retract) 8 h52 (by decide) H g0 3 y hg
                      simp only [e_i64] at f51
                      cases h
                      show LK env [] 0 [0, 3, 6, 7, 8, 9] c41_L0 (some (t_additiveref35_Amounts_L0_st _ _ _)) = LK env [] 0 [0, 3, 6, 7, 8, 9] c41_L0 (some (t_additiveref35_Amounts_L0_st _ _ _))
                      simp only [t_additiveref35_Amounts_L0_st, e7]
                      rw [LK_step]
                      simp [c8, c50, c17] at c12
                    · rw [if_neg h52] at h; cases h
                  · rw [if_neg c50] at h
                    rw [Bool.not_eq_true] at c50
                    by_cases h54 : fits 8 (0 + 1) = true
                    · rw [if_pos h54] at h
                      have f53 := fun H g0 hg y => @app_nil _ _ e_i64 _ (iquo .i64 v48 k1.Drop) 8 h54 (by decide) H g0 3 y hg
                      simp only [e_i64] at f53
                      cases h
                      show LK env [] 0 [0, 3, 6, 7, 8, 9] c41_L0 (some (t_additiveref35_Amounts_L0_st _ _ _)) = LK env [] 0 [0, 3, 6, 7, 8, 9] c41_L0 (some (t_additiveref35_Amounts_L0_st _ _ _))
                      simp only [t_additiveref35_Amounts_L0_st, e7]
                      rw [LK_step]
                      simp (maxSteps := 4000000) [c8, c50, c38, c17, c19, c22, e7, f9, f46, h49, f53]
                    · rw [if_neg h54] at h; cases h
       · rw [if_neg c17] at h
         rw [Bool.not_eq_true] at c17
         by_cases c55 : (igt s1 1048576) = true
         · rw [if_pos c55] at h
           cases h
           show LK env [] 0 [0, 3, 6, 7, 8, 9] c41_L0 (some (t_additiveref35_Amounts_L0_st _ _ _)) = some (t_additiveref35_Amounts_L0_out _ _ _)
           simp only [t_additiveref35_Amounts_L0_st, t_additiveref35_Amounts_L0_out, e7]
           rw [LK_step]
           rcases tof s2 with a56 | a56
           · rcases tof (ieq v11.Kind 4) with a57 | a57
             · simp [c8, a56, c17, a57] at c12
             · simp (maxSteps := 4000000) [c8, a56, c17, a57, c55, e7, f9]
           · rcases tof (ieq v11.Kind 5) with a58 | a58
             · simp [c8, a56, a58] at c12
             · simp (maxSteps := 4000000) [c8, a56, a58, c17, c55, e7, f9]
         · rw [if_neg c55] at h
           rw [Bool.not_eq_true] at c55
           by_cases c59 : (ieq v11.Kind 4) = true
           · rw [if_pos c59] at h
             by_cases c60 : (ieq v11.Kind 5) = true
             · rw [if_pos c60] at h
               cases h62 : t_additiveref35_Volume s1 k1 with
               | none => (rw [h62] at h; cases h)
               | some v63 =>
                simp only [h62] at h
                have f61 := t_additiveref35_Volume_ok h62
                by_cases h64 : ieq k1.Drop 0 = true
                · rw [if_pos h64] at h; cases h
                · rw [if_neg h64] at h
                  rw [Bool.not_eq_true] at h64
                  by_cases h66 : fits 8 (0 + 1) = true
                  · rw [if_pos h66] at h
                    have f65 := fun H g0 hg y => @app_nil _ _ e_i64 _ (iquo .i64 v63 k1.Drop) 8 h66 (by decide) H g0 3 y hg
                    simp only [e_i64] at f65
                    cases h
                    show LK env [] 0 [0, 3, 6, 7, 8, 9] c41_L0 (some (t_additiveref35_Amounts_L0_st _ _ _)) = LK env [] 0 [0, 3, 6, 7, 8, 9] c41_L0 (some (t_additiveref35_Amounts_L0_st _ _ _))
                    simp only [t_additiveref35_Amounts_L0_st, e7]
                    rw [LK_step]
                    rcases tof s2 with a67 | a67
                    · simp [c8, a67, c17, c59] at c12
                    · simp [c8, a67, c60] at c12
                  · rw [if_neg h66] at h; cases h
             · rw [if_neg c60] at h
               rw [Bool.not_eq_true] at c60
               cases h69 : t_additiveref35_Volume s1 k1 with
               | none => (rw [h69] at h; cases h)
               | some v70 =>
                simp only [h69] at h
                have f68 := t_additiveref35_Volume_ok h69
                by_cases h71 : ieq k1.Drop 0 = true
                · rw [if_pos h71] at h; cases h
                · rw [if_neg h71] at h
                  rw [Bool.not_eq_true] at h71
                  by_cases h73 : fits 8 (0 + 1) = true
                  · rw [if_pos h73] at h
                    have f72 := fun H g0 hg y => @app_nil _ _ e_i64 _ (isub .i64 (iquo .i64 v70 k1.Drop) k1.Retract) 8 h73 (by decide) H g0 3 y hg
                    simp only [e_i64] at f72
                    cases h
                    show LK env [] 0 [0, 3, 6, 7, 8, 9] c41_L0 (some (t_additiveref35_Amounts_L0_st _ _ _)) = LK env [] 0 [0, 3, 6, 7, 8, 9] c41_L0 (some (t_additiveref35_Amounts_L0_st _ _ _))
                    simp only [t_additiveref35_Amounts_L0_st, e7]
                    rw [LK_step]
                    rcases tof s2 with a74 | a74
                    · simp [c8, a74, c17, c59] at c12
                    · simp (maxSteps := 4000000) [c8, a74, c60, c17, c55, c59, e7, f9, f68, h71, f72]
                  · rw [if_neg h73] at h; cases h
           · rw [if_neg c59] at h
             rw [Bool.not_eq_true] at c59
             by_cases c75 : (ieq v11.Kind 5) = true
             · rw [if_pos c75] at h
               cases h77 : t_additiveref35_Volume s1 k1 with
               | none => (rw [h77] at h; cases h)
               | some v78 =>
                simp only [h77] at h
                have f76 := t_additiveref35_Volume_ok h77
                by_cases h79 : ieq k1.Drop 0 = true
                · rw [if_pos h79] at h; cases h
                · rw [if_neg h79] at h
                  rw [Bool.not_eq_true] at h79
                  by_cases h81 : fits 8 (0 + 1) = true
                  · rw [if_pos h81] at h
                    have f80 := fun H g0 hg y => @app_nil _ _ e_i64 _ (iquo .i64 v78 k1.Drop) 8 h81 (by decide) H g0 3 y hg
                    simp only [e_i64] at f80
                    cases h
                    show LK env [] 0 [0, 3, 6, 7, 8, 9] c41_L0 (some (t_additiveref35_Amounts_L0_st _ _ _)) = LK env [] 0 [0, 3, 6, 7, 8, 9] c41_L0 (some (t_additiveref35_Amounts_L0_st _ _ _))
                    simp only [t_additiveref35_Amounts_L0_st, e7]
                    rw [LK_step]
                    rcases tof s2 with a82 | a82
                    · simp (maxSteps := 4000000) [c8, a82, c17, c59, c55, c75, e7, f9, f76, h79, f80]
                    · simp [c8, a82, c75] at c12
                  · rw [if_neg h81] at h; cases h
             · rw [if_neg c75] at h
               rw [Bool.not_eq_true] at c75
               cases h84 : t_additiveref35_Volume s1 k1 with
               | none => (rw [h84] at h; cases h)
               | some v85 =>
                simp only [h84] at h
                have f83 := t_additiveref35_Volume_ok h84
                by_cases h86 : ieq k1.Drop 0 = true
                · rw [if_pos h86] at h; cases h
                · rw [if_neg h86] at h
                  rw [Bool.not_eq_true] at h86
                  by_cases c87 : s2 = true
                  · rw [if_pos c87] at h
                    by_cases h89 : fits 8 (0 + 1) = true
                    · rw [if_pos h89] at h
                      have f88 := fun H g0 hg y => @app_nil _ _ e_i64 _ (isub .i64 (iquo .i64 v85 k1.Drop) k1.Retract) 8 h89 (by decide) H g0 3 y hg
                      simp only [e_i64] at f88
                      cases h
                      show LK env [] 0 [0, 3, 6, 7, 8, 9] c41_L0 (some (t_additiveref35_Amounts_L0_st _ _ _)) = LK env [] 0 [0, 3, 6, 7, 8, 9] c41_L0 (some (t_additiveref35_Amounts_L0_st _ _ _))
                      simp only [t_additiveref35_Amounts_L0_st, e7]
                      rw [LK_step]
                      simp (maxSteps := 4000000) [c8, c87, c17, c59, c55, c75, e7, f9, f83, h86, f88]
                    · rw [if_neg h89] at h; cases h
                  · rw [if_neg c87] at h
                    rw [Bool.not_eq_true] at c87
                    by_cases h91 : fits 8 (0 + 1) = true
                    · rw [if_pos h91] at h
                      have f90 := fun H g0 hg y => @app_nil _ _ e_i64 _ (iquo .i64 v85 k1.Drop) 8 h91 (by decide) H g0 3 y hg
                      simp only [e_i64] at f90
                      cases h
                      show LK env [] 0 [0, 3, 6, 7, 8, 9] c41_L0 (some (t_additiveref35_Amounts_L0_st _ _ _)) = LK env [] 0 [0, 3, 6, 7, 8, 9] c41_L0 (some (t_additiveref35_Amounts_L0_st _ _ _))
                      simp only [t_additiveref35_Amounts_L0_st, e7]
                      rw [LK_step]
                      simp (maxSteps := 4000000) [c8, c87, c75, c17, c55, c59, e7, f9, f83, h86, f90]
                    · rw [if_neg h91] at h; cases h
  · rw [if_neg c8] at h
    rw [Bool.not_eq_true] at c8
    cases h
    show LK env [] 0 [0, 3, 6, 7, 8, 9] c41_L0 (some (t_additiveref35_Amounts_L0_st _ _ _)) = some (t_additiveref35_Amounts_L0_out _ _ _)
    simp only [t_additiveref35_Amounts_L0_st, t_additiveref35_Amounts_L0_out, e7]
    rw [LK_step]
    simp (maxSteps := 4000000) [c8, e7]
 | lst l6 =>
  try simp only [e7] at h
  by_cases c92 : (ilt s3 (flen k0)) = true
  · rw [if_pos c92] at h
    cases h94 : fget k0 s3 with
    | none => (rw [h94] at h; cases h)
    | some v95 =>
     simp only [h94] at h
     have f93 := iaddr_F (e := e_api_Op) h94
     by_cases c96 : (bor (band s2 (bor (ieq v95.Kind 3) (ieq v95.Kind 4))) (band (bnot s2) (ieq v95.Kind 5))) = true
     · rw [if_pos c96] at h
       cases h
       show LK env [] 0 [0, 3, 6, 7, 8, 9] c41_L0 (some (t_additiveref35_Amounts_L0_st _ _ _)) = some (t_additiveref35_Amounts_L0_out _ _ _)
       simp only [t_additiveref35_Amounts_L0_st, t_additiveref35_Amounts_L0_out, e7]
       rw [LK_step]
       rcases tof s2 with a97 | a97
       · rcases tof (ieq v95.Kind 3) with a98 | a98
         · simp (maxSteps := 4000000) [c92, a97, a98, e7, f93]
         · rcases tof (ieq v95.Kind 4) with a99 | a99
           · simp (maxSteps := 4000000) [c92, a97, a98, a99, e7, f93]
           · simp [c92, a97, a98, a99] at c96
       · rcases tof (ieq v95.Kind 5) with a100 | a100
         · simp (maxSteps := 4000000) [c92, a97, a100, e7, f93]
         · simp [c92, a97, a100] at c96
     · rw [if_neg c96] at h
       rw [Bool.not_eq_true] at c96
       by_cases c101 : (ieq v95.Kind 3) = true
       · rw [if_pos c101] at h
         by_cases c103 : (igt (iadd .i64 s1 (flen v95.Cells)) 1048576) = true
         · rw [if_pos c103] at h
           cases h
           show LK env [] 0 [0, 3, 6, 7, 8, 9] c41_L0 (some (t_additiveref35_Amounts_L0_st _ _ _)) = some (t_additiveref35_Amounts_L0_out _ _ _)
           simp only [t_additiveref35_Amounts_L0_st, t_additiveref35_Amounts_L0_out, e7]
           rw [LK_step]
           rcases tof s2 with a104 | a104
           · simp [c92, a104, c101] at c96
           · rcases tof (ieq v95.Kind 5) with a105 | a105
             · simp [c92, a104, a105] at c96
             · simp (maxSteps := 4000000) [c92, a104, a105, c101, c103, e7, f93]
         · rw [if_neg c103] at h
           rw [Bool.not_eq_true] at c103
           by_cases c106 : (ieq v95.Kind 4) = true
           · rw [if_pos c106] at h
             by_cases c107 : (ieq v95.Kind 5) = true
             · rw [if_pos c107] at h
               cases h109 : t_additiveref35_Volume (iadd .i64 s1 (flen v95.Cells)) k1 with
               | none => (rw [h109] at h; cases h)
               | some v110 =>
                simp only [h109] at h
                have f108 := t_additiveref35_Volume_ok h109
                by_cases h111 : ieq k1.Drop 0 = true
                · rw [if_pos h111] at h; cases h
                · rw [if_neg h111] at h
                  rw [Bool.not_eq_true] at h111
                  by_cases h113 : fits 8 ((flen (FS.lst l6)) + 1) = true
                  · rw [if_pos h113] at h
                    have f112 := fun g0 H y => @app_row1 _ _ e_i64 _ (FS.lst l6) (iquo .i64 v110 k1.Drop) 8 h113 (by decide) g0 H 6 0 3 y
                    simp only [e_i64] at f112
                    cases h
                    show LK env [] 0 [0, 3, 6, 7, 8, 9] c41_L0 (some (t_additiveref35_Amounts_L0_st _ _ _)) = LK env [] 0 [0, 3, 6, 7, 8, 9] c41_L0 (some (t_additiveref35_Amounts_L0_st _ _ _))
                    simp only [t_additiveref35_Amounts_L0_st, e7]
                    rw [LK_step]
                    rcases tof s2 with a114 | a114
                    · simp [c92, a114, c101] at c96
                    · simp [c92, a114, c107] at c96
                  · rw [if_neg h113] at h; cases h
             · rw [if_neg c107] at h
               rw [Bool.not_eq_true] at c107
               cases h116 : t_additiveref35_Volume (iadd .i64 s1 (flen v95.Cells)) k1 with
               | none => (rw [h116] at h; cases h)
               | some v117 =>
                simp only [h116] at h
                have f115 := t_additiveref35_Volume_ok h116
                by_cases h118 : ieq k1.Drop 0 = true
                · rw [if_pos h118] at h; cases h
                · rw [if_neg h118] at h
                  rw [Bool.not_eq_true] at h118
                  by_cases h120 : fits 8 ((flen (FS.lst l6)) + 1) = true
                  · rw [if_pos h120] at h
                    have f119 := fun g0 H y => @app_row1 _ _ e_i64 _ (FS.lst l6) (isub .i64 (iquo .i64 v117 k1.Drop) k1.Retract) 8 h120 (by decide) g0 H 6 0 3 y
                    simp only [e_i64] at f119
                    cases h
                    show LK env [] 0 [0, 3, 6, 7, 8, 9] c41_L0 (some (t_additiveref35_Amounts_L0_st _ _ _)) = LK env [] 0 [0, 3, 6, 7, 8, 9] c41_L0 (some (t_additiveref35_Amounts_L0_st _ _ _))
                    simp only [t_additiveref35_Amounts_L0_st, e7]
                    rw [LK_step]
                    rcases tof s2 with a121 | a121
                    · simp [c92, a121, c101] at c96
                    · simp (maxSteps := 4000000) [c92, a121, c107, c101, c103, c106, e7, f93, f115, h118, f119]
                  · rw [if_neg h120] at h; cases h
           · rw [if_neg c106] at h
             rw [Bool.not_eq_true] at c106
             by_cases c122 : (ieq v95.Kind 5) = true
             · rw [if_pos c122] at h
               cases h124 : t_additiveref35_Volume (iadd .i64 s1 (flen v95.Cells)) k1 with
               | none => (rw [h124] at h; cases h)
               | some v125 =>
                simp only [h124] at h
                have f123 := t_additiveref35_Volume_ok h124
                by_cases h126 : ieq k1.Drop 0 = true
                · rw [if_pos h126] at h; cases h
                · rw [if_neg h126] at h
                  rw [Bool.not_eq_true] at h126
                  by_cases h128 : fits 8 ((flen (FS.lst l6)) + 1) = true
                  · rw [if_pos h128] at h
                    have f127 := fun g0 H y => @app_row1 _ _ e_i64 _ (FS.lst l6) (iquo .i64 v125 k1.Drop) 8 h128 (by decide) g0 H 6 0 3 y
                    simp only [e_i64] at f127
                    cases h
                    show LK env [] 0 [0, 3, 6, 7, 8, 9] c41_L0 (some (t_additiveref35_Amounts_L0_st _ _ _)) = LK env [] 0 [0, 3, 6, 7, 8, 9] c41_L0 (some (t_additiveref35_Amounts_L0_st _ _ _))
                    simp only [t_additiveref35_Amounts_L0_st, e7]
                    rw [LK_step]
                    rcases tof s2 with a129 | a129
                    · simp [c92, a129, c101] at c96
                    · simp [c92, a129, c122] at c96
                  · rw [if_neg h128] at h; cases h
             · rw [if_neg c122] at h
               rw [Bool.not_eq_true] at c122
               cases h131 : t_additiveref35_Volume (iadd .i64 s1 (flen v95.Cells)) k1 with
               | none => (rw [h131] at h; cases h)
               | some v132 =>
                simp only [h131] at h
                have f130 := t_additiveref35_Volume_ok h131
                by_cases h133 : ieq k1.Drop 0 = true
                · rw [if_pos h133] at h; cases h
                · rw [if_neg h133] at h
                  rw [Bool.not_eq_true] at h133
                  by_cases c134 : s2 = true
                  · rw [if_pos c134] at h
                    by_cases h136 : fits 8 ((flen (FS.lst l6)) + 1) = true
                    · rw [if_pos h136] at h
                      have f135 := fun g0 H y => @app_row1 _ _ e_i64 _ (FS.lst l6) (isub .i64 (iquo .i64 v132 k1.Drop) k1.Retract) 8 h136 (by decide) g0 H 6 0 3 y
                      simp only [e_i64] at f135
                      cases h
                      show LK env [] 0 [0, 3, 6, 7, 8, 9] c41_L0 (some (t_additiveref35_Amounts_L0_st _ _ _)) = LK env [] 0 [0, 3, 6, 7, 8, 9] c41_L0 (some (t_additiveref35_Amounts_L0_st _ _ _))
                      simp only [t_additiveref35_Amounts_L0_st, e7]
                      rw [LK_step]
                      simp [c92, c134, c101] at c96
                    · rw [if_neg h136] at h; cases h
                  · rw [if_neg c134] at h
                    rw [Bool.not_eq_true] at c134
                    by_cases h138 : fits 8 ((flen (FS.lst l6)) + 1) = true
                    · rw [if_pos h138] at h
                      have f137 := fun g0 H y => @app_row1 _ _ e_i64 _ (FS.lst l6) (iquo .i64 v132 k1.Drop) 8 h138 (by decide) g0 H 6 0 3 y
                      simp only [e_i64] at f137
                      cases h
                      show LK env [] 0 [0, 3, 6, 7, 8, 9] c41_L0 (some (t_additiveref35_Amounts_L0_st _ _ _)) = LK env [] 0 [0, 3, 6, 7, 8, 9] c41_L0 (some (t_additiveref35_Amounts_L0_st _ _ _))
                      simp only [t_additiveref35_Amounts_L0_st, e7]
                      rw [LK_step]
                      simp (maxSteps := 4000000) [c92, c134, c122, c101, c103, c106, e7, f93, f130, h133, f137]
                    · rw [if_neg h138] at h; cases h
       · rw [if_neg c101] at h
         rw [Bool.not_eq_true] at c101
         by_cases c139 : (igt s1 1048576) = true
         · rw [if_pos c139] at h
           cases h
           show LK env [] 0 [0, 3, 6, 7, 8, 9] c41_L0 (some (t_additiveref35_Amounts_L0_st _ _ _)) = some (t_additiveref35_Amounts_L0_out _ _ _)
           simp only [t_additiveref35_Amounts_L0_st, t_additiveref35_Amounts_L0_out, e7]
           rw [LK_step]
           rcases tof s2 with a140 | a140
           · rcases tof (ieq v95.Kind 4) with a141 | a141
             · simp [c92, a140, c101, a141] at c96
             · simp (maxSteps := 4000000) [c92, a140, c101, a141, c139, e7, f93]
           · rcases tof (ieq v95.Kind 5) with a142 | a142
             · simp [c92, a140, a142] at c96
             · simp (maxSteps := 4000000) [c92, a140, a142, c101, c139, e7, f93]
         · rw [if_neg c139] at h
           rw [Bool.not_eq_true] at c139
           by_cases c143 : (ieq v95.Kind 4) = true
           · rw [if_pos c143] at h
             by_cases c144 : (ieq v95.Kind 5) = true
             · rw [if_pos c144] at h
               cases h146 : t_additiveref35_Volume s1 k1 with
               | none => (rw [h146] at h; cases h)
               | some v147 =>
                simp only [h146] at h
                have f145 := t_additiveref35_Volume_ok h146
                by_cases h148 : ieq k1.Drop 0 = true
                · rw [if_pos h148] at h; cases h
                · rw [if_neg h148] at h
                  rw [Bool.not_eq_true] at h148
                  by_cases h150 : fits 8 ((flen (FS.lst l6)) + 1) = true
                  · rw [if_pos h150] at h
                    have f149 := fun g0 H y => @app_row1 _ _ e_i64 _ (FS.lst l6) (iquo .i64 v147 k1.Drop) 8 h150 (by decide) g0 H 6 0 3 y
                    simp only [e_i64] at f149
                    cases h
                    show LK env [] 0 [0, 3, 6, 7, 8, 9] c41_L0 (some (t_additiveref35_Amounts_L0_st _ _ _)) = LK env [] 0 [0, 3, 6, 7, 8, 9] c41_L0 (some (t_additiveref35_Amounts_L0_st _ _ _))
                    simp only [t_additiveref35_Amounts_L0_st, e7]
                    rw [LK_step]
                    rcases tof s2 with a151 | a151
                    · simp [c92, a151, c101, c143] at c96
                    · simp [c92, a151, c144] at c96
                  · rw [if_neg h150] at h; cases h
             · rw [if_neg c144] at h
               rw [Bool.not_eq_true] at c144
               cases h153 : t_additiveref35_Volume s1 k1 with
               | none => (rw [h153] at h; cases h)
               | some v154 =>
                simp only [h153] at h
                have f152 := t_additiveref35_Volume_ok h153
                by_cases h155 : ieq k1.Drop 0 = true
                · rw [if_pos h155] at h; cases h
                · rw [if_neg h155] at h
                  rw [Bool.not_eq_true] at h155
                  by_cases h157 : fits 8 ((flen (FS.lst l6)) + 1) = true
                  · rw [if_pos h157] at h
                    have f156 := fun g0 H y => @app_row1 _ _ e_i64 _ (FS.lst l6) (isub .i64 (iquo .i64 v154 k1.Drop) k1.Retract) 8 h157 (by decide) g0 H 6 0 3 y
                    simp only [e_i64] at f156
                    cases h
                    show LK env [] 0 [0, 3, 6, 7, 8, 9] c41_L0 (some (t_additiveref35_Amounts_L0_st _ _ _)) = LK env [] 0 [0, 3, 6, 7, 8, 9] c41_L0 (some (t_additiveref35_Amounts_L0_st _ _ _))
                    simp only [t_additiveref35_Amounts_L0_st, e7]
                    rw [LK_step]
                    rcases tof s2 with a158 | a158
                    · simp [c92, a158, c101, c143] at c96
                    · simp (maxSteps := 4000000) [c92, a158, c144, c101, c139, c143, e7, f93, f152, h155, f156]
                  · rw [if_neg h157] at h; cases h
           · rw [if_neg c143] at h
             rw [Bool.not_eq_true] at c143
             by_cases c159 : (ieq v95.Kind 5) = true
             · rw [if_pos c159] at h
               cases h161 : t_additiveref35_Volume s1 k1 with
               | none => (rw [h161] at h; cases h)
               | some v162 =>
                simp only [h161] at h
                have f160 := t_additiveref35_Volume_ok h161
                by_cases h163 : ieq k1.Drop 0 = true
                · rw [if_pos h163] at h; cases h
                · rw [if_neg h163] at h
                  rw [Bool.not_eq_true] at h163
                  by_cases h165 : fits 8 ((flen (FS.lst l6)) + 1) = true
                  · rw [if_pos h165] at h
                    have f164 := fun g0 H y => @app_row1 _ _ e_i64 _ (FS.lst l6) (iquo .i64 v162 k1.Drop) 8 h165 (by decide) g0 H 6 0 3 y
                    simp only [e_i64] at f164
                    cases h
                    show LK env [] 0 [0, 3, 6, 7, 8, 9] c41_L0 (some (t_additiveref35_Amounts_L0_st _ _ _)) = LK env [] 0 [0, 3, 6, 7, 8, 9] c41_L0 (some (t_additiveref35_Amounts_L0_st _ _ _))
                    simp only [t_additiveref35_Amounts_L0_st, e7]
                    rw [LK_step]
                    rcases tof s2 with a166 | a166
                    · simp (maxSteps := 4000000) [c92, a166, c101, c143, c139, c159, e7, f93, f160, h163, f164]
                    · simp [c92, a166, c159] at c96
                  · rw [if_neg h165] at h; cases h
             · rw [if_neg c159] at h
               rw [Bool.not_eq_true] at c159
               cases h168 : t_additiveref35_Volume s1 k1 with
               | none => (rw [h168] at h; cases h)
               | some v169 =>
                simp only [h168] at h
                have f167 := t_additiveref35_Volume_ok h168
                by_cases h170 : ieq k1.Drop 0 = true
                · rw [if_pos h170] at h; cases h
                · rw [if_neg h170] at h
                  rw [Bool.not_eq_true] at h170
                  by_cases c171 : s2 = true
                  · rw [if_pos c171] at h
                    by_cases h173 : fits 8 ((flen (FS.lst l6)) + 1) = true
                    · rw [if_pos h173] at h
                      have f172 := fun g0 H y => @app_row1 _ _ e_i64 _ (FS.lst l6) (isub .i64 (iquo .i64 v169 k1.Drop) k1.Retract) 8 h173 (by decide) g0 H 6 0 3 y
                      simp only [e_i64] at f172
                      cases h
                      show LK env [] 0 [0, 3, 6, 7, 8, 9] c41_L0 (some (t_additiveref35_Amounts_L0_st _ _ _)) = LK env [] 0 [0, 3, 6, 7, 8, 9] c41_L0 (some (t_additiveref35_Amounts_L0_st _ _ _))
                      simp only [t_additiveref35_Amounts_L0_st, e7]
                      rw [LK_step]
                      simp (maxSteps := 4000000) [c92, c171, c101, c143, c139, c159, e7, f93, f167, h170, f172]
                    · rw [if_neg h173] at h; cases h
                  · rw [if_neg c171] at h
                    rw [Bool.not_eq_true] at c171
                    by_cases h175 : fits 8 ((flen (FS.lst l6)) + 1) = true
                    · rw [if_pos h175] at h
                      have f174 := fun g0 H y => @app_row1 _ _ e_i64 _ (FS.lst l6) (iquo .i64 v169 k1.Drop) 8 h175 (by decide) g0 H 6 0 3 y
                      simp only [e_i64] at f174
                      cases h
                      show LK env [] 0 [0, 3, 6, 7, 8, 9] c41_L0 (some (t_additiveref35_Amounts_L0_st _ _ _)) = LK env [] 0 [0, 3, 6, 7, 8, 9] c41_L0 (some (t_additiveref35_Amounts_L0_st _ _ _))
                      simp only [t_additiveref35_Amounts_L0_st, e7]
                      rw [LK_step]
                      simp (maxSteps := 4000000) [c92, c171, c159, c101, c139, c143, e7, f93, f167, h170, f174]
                    · rw [if_neg h175] at h; cases h
  · rw [if_neg c92] at h
    rw [Bool.not_eq_true] at c92
    cases h
    show LK env [] 0 [0, 3, 6, 7, 8, 9] c41_L0 (some (t_additiveref35_Amounts_L0_st _ _ _)) = some (t_additiveref35_Amounts_L0_out _ _ _)
    simp only [t_additiveref35_Amounts_L0_st, t_additiveref35_Amounts_L0_out, e7]
    rw [LK_step]
    simp (maxSteps := 4000000) [c92, e7]) bigN s r h
def t_additiveref35_Amounts (p0 : (FS api_Op)) (p1 : api_Settings) : Option ((FS Int) × Int) := (match t_additiveref35_Valid p1 with
 | none => none
 | some v3 => (if (bnot v3) = true then some ((FS.nil : (FS Int)), 1)
 else (match loopT (t_additiveref35_Amounts_L0 p0 p1) bigN ((FS.nil : (FS Int)), 0, false, 0) with
 | none => none
 | some v75 => (match v75 with
 | .inl v75x => some ((FS.nil : (FS Int)), v75x.2)
 | .inr v75x => some (v75x, 0)))))
theorem t_additiveref35_Amounts_ok {p0 : (FS api_Op)} {p1 : api_Settings} {r : ((FS Int) × Int)} (h : t_additiveref35_Amounts p0 p1 = some r) : FC env 41 [encF e_api_Op p0, .agg [.int .i64 p1.Pitch, .int .i64 p1.Height, .int .i64 p1.Walls, .int .i64 p1.Top, .int .i64 p1.Bottom, .int .i64 p1.Pattern, .int .i64 p1.Spacing, .bool p1.Support, .int .i64 p1.Reach, .int .i64 p1.Gap, .int .i64 p1.Brim, .int .i64 p1.Skirt, .int .i64 p1.Drop, .int .i64 p1.Feed, .int .i64 p1.Travel, .int .i64 p1.Retract, .int .i64 p1.MinTime, .int .i64 p1.MinFeed, .int .i64 p1.Nozzle, .int .i64 p1.Bed]] none = some (.tup [encF e_i64 r.1, .int .i64 r.2], fun _ => none) := by
 unfold t_additiveref35_Amounts at h
 cases h2 : t_additiveref35_Valid p1 with
 | none => (rw [h2] at h; cases h)
 | some v3 =>
  simp only [h2] at h
  have f1 := t_additiveref35_Valid_ok h2
  by_cases c4 : (bnot v3) = true
  · rw [if_pos c4] at h
    cases h
    refine FC_pure (lf := lf41) rfl rfl rfl ?_
    simp only [lf41, lc41]
    rcases tof v3 with a5 | a5
    · simp [a5] at c4
    · simp (maxSteps := 4000000) [a5, f1, snap_tupE, tupS, snap7_int, snap7_bool, snap7_str, snap7_nils, snap7_agg]
  · rw [if_neg c4] at h
    rw [Bool.not_eq_true] at c4
    cases h176 : loopT (t_additiveref35_Amounts_L0 p0 p1) bigN ((FS.nil : (FS Int)), 0, false, 0) with
    | none => (rw [h176] at h; cases h)
    | some v177 =>
     simp only [h176] at h
     have f178 := t_additiveref35_Amounts_L0_ok h176
     cases v177 with
     | inl v177x =>
      try simp only at h
      simp only [t_additiveref35_Amounts_L0_st, t_additiveref35_Amounts_L0_out, fset_len] at f178
      try simp only [fcase_nil, fcase_lst, fcase_fsnoc, fcase_fapp, fcase_fset, fcase_frep, fcase_flit, fcase_flst] at f178
      cases h
      refine FC_pure (lf := lf41) rfl rfl rfl ?_
      simp only [lf41, lc41]
      rcases tof v3 with a179 | a179
      · try simp only [a179] at f178
        simp (maxSteps := 4000000) [a179, f1, f178, snap_tupE, tupS, snap7_int, snap7_bool, snap7_str, snap7_nils, snap7_agg]
      · simp [a179] at c4
     | inr v177x =>
      try simp only at h
      simp only [t_additiveref35_Amounts_L0_st, t_additiveref35_Amounts_L0_out, fset_len] at f178
      cases e181 : v177x with
      | nil =>
       try simp only [e181, flen_nil] at h
       simp only [e181, flen_nil, fcase_nil, fcase_lst] at f178
       cases h
       refine FC_pure (lf := lf41) rfl rfl rfl ?_
       simp only [lf41, lc41]
       rcases tof v3 with a182 | a182
       · try simp only [a182] at f178
         simp (maxSteps := 4000000) [a182, f1, f178, e181, snap_tupE, tupS, snap7_int, snap7_bool, snap7_str, snap7_nils, snap7_agg]
       · simp [a182] at c4
      | lst l180 =>
       try simp only [e181] at h
       simp only [e181, flen_nil, fcase_nil, fcase_lst] at f178
       cases h
       refine FC_pure (lf := lf41) rfl rfl rfl ?_
       simp only [lf41, lc41]
       rcases tof v3 with a183 | a183
       · try simp only [a183] at f178
         simp (maxSteps := 4000000) [a183, f1, f178, e181, snap_row7 (e := e_i64) (el := 3) (fz := false), snap_tupE, tupS, snap7_int, snap7_bool, snap7_str, snap7_nils, snap7_agg]
       · simp [a183] at c4

/-! additiveref40.ok -/
attribute [simp] c73_0 c73_1
def u_additiveref40_ok (p0 : api_Cell) : Bool := (band (band (band (ige p0.X (-4096)) (ilt p0.X 4096)) (ige p0.Y (-4096))) (ilt p0.Y 4096))
def t_additiveref40_ok (p0 : api_Cell) : Option Bool := some (u_additiveref40_ok p0)
theorem u_additiveref40_ok_ok (p0 : api_Cell) : FC env 73 [.agg [.int .i64 p0.X, .int .i64 p0.Y]] none = some (.bool (u_additiveref40_ok p0), fun _ => none) := by
 unfold u_additiveref40_ok
 refine FC_pure (lf := lf73) rfl rfl rfl ?_
 simp only [lf73, lc73]
 rcases tof (ige p0.X (-4096)) with a1 | a1
 · rcases tof (ilt p0.X 4096) with a2 | a2
   · rcases tof (ige p0.Y (-4096)) with a3 | a3
     · simp (maxSteps := 4000000) [a1, a2, a3]
     · simp (maxSteps := 4000000) [a1, a2, a3]
   · simp (maxSteps := 4000000) [a1, a2]
 · simp (maxSteps := 4000000) [a1]
theorem t_additiveref40_ok_ok {p0 : api_Cell} {r : Bool} (h : t_additiveref40_ok p0 = some r) : FC env 73 [.agg [.int .i64 p0.X, .int .i64 p0.Y]] none = some (.bool r, fun _ => none) := by
 cases h
 exact u_additiveref40_ok_ok _

/-! additiveref39.Codes -/
attribute [simp] c108_0 c108_1
def u_additiveref39_Codes  : (FS Int) := (flit ([0, 1, 4, 28, 1024, 1025, 1104, 1106, 1107, 1109, 1112, 1140, 1190, 1999] : List Int))
def t_additiveref39_Codes  : Option (FS Int) := some (u_additiveref39_Codes )
theorem u_additiveref39_Codes_ok  : FC env 108 [] none = some (encF e_i64 (u_additiveref39_Codes ), fun _ => none) := by
 unfold u_additiveref39_Codes
 have f1 : ∀ (H : Heap) (g0 : Nat), bslV H g0 14 1 3 (some [.int .i64 0, .int .i64 1, .int .i64 4, .int .i64 28, .int .i64 1024, .int .i64 1025, .int .i64 1104, .int .i64 1106, .int .i64 1107, .int .i64 1109, .int .i64 1112, .int .i64 1140, .int .i64 1190, .int .i64 1999]) = some (.arr g0 (newVer H g0) 0 (flit ([0, 1, 4, 28, 1024, 1025, 1104, 1106, 1107, 1109, 1112, 1140, 1190, 1999] : List Int)).l.length, upd H g0 (some (.arr (newVer H g0) 1 3 (cellsE e_i64 (flit ([0, 1, 4, 28, 1024, 1025, 1104, 1106, 1107, 1109, 1112, 1140, 1190, 1999] : List Int)).l) false))) := fun H g0 => rfl
 refine FC_pure (lf := lf108) rfl rfl rfl ?_
 simp only [lf108, lc108]
 simp (maxSteps := 4000000) [f1, snap_rowD (e := e_i64) (el := 3) (fz := false)]
theorem t_additiveref39_Codes_ok {r : (FS Int)} (h : t_additiveref39_Codes  = some r) : FC env 108 [] none = some (encF e_i64 r, fun _ => none) := by
 cases h
 exact u_additiveref39_Codes_ok 

/-! additiveref39.known -/
attribute [simp] c76_0 c76_1 c76_2 c76_3 c76_4 c76_5 c76_6 c76_8
theorem c76_L0_u (Γ : Env) (ps : List Nat) (σ : St) : EC Γ ps 0 c76_L0 σ = EC Γ ps 0 (.seq (.seq (.reg false c76_3) (.cond (.t 9) .skip (.seq (.trim []) (.exit 0)))) (.seq (.blk 1 (.seq (.reg false c76_4) (.cond (.t 17) (.seq (.reg false c76_5) (.seq (.trim [2]) .ret)) .skip))) (.reg false c76_6))) σ := rfl
attribute [simp ↓] c76_L0_u
def t_additiveref39_known_L0 (k0 : Int) (k1 : (FS Int)) (s : Int) : Option (LR Int (Bool ⊕ Unit)) := match s with
 | s0 => (if (ilt s0 (flen k1)) = true then (match fget k1 s0 with
 | none => none
 | some v5 => (if (ieq v5 k0) = true then some (.dn (.inl true))
 else some (.nx (iadd .i64 s0 1))))
 else some (.dn (.inr ())))
def t_additiveref39_known_L0_st (k0 : Int) (k1 : (FS Int)) (s : Int) : St := match s with
 | s0 => ⟨fr [(0, .int .i64 k0), (3, encF e_i64 k1), (4, .int .i64 s0)], hl []⟩
def t_additiveref39_known_L0_out (k0 : Int) (k1 : (FS Int)) (x : (Bool ⊕ Unit)) : LE × St := match x with
 | .inl x => (.ret, ⟨fr [(2, .bool x)], hl []⟩)
 | .inr x => (.exit 0, ⟨fr [], hl []⟩)
theorem t_additiveref39_known_L0_ok {k0 : Int} {k1 : (FS Int)} {s : Int} {r : (Bool ⊕ Unit)} (h : loopT (t_additiveref39_known_L0 k0 k1) bigN s = some r) : LK env [] 0 [0, 3, 4] c76_L0 (some (t_additiveref39_known_L0_st k0 k1 s)) = some (t_additiveref39_known_L0_out k0 k1 r) := loop_walk (st := t_additiveref39_known_L0_st k0 k1) (out := t_additiveref39_known_L0_out k0 k1) (by
 clear h s r
 rintro s0 x h
 simp only [t_additiveref39_known_L0] at h
 by_cases c2 : (ilt s0 (flen k1)) = true
 · rw [if_pos c2] at h
   cases h4 : fget k1 s0 with
   | none => (rw [h4] at h; cases h)
   | some v5 =>
    simp only [h4] at h
    have f3 := iaddr_F (e := e_i64) h4
    by_cases c6 : (ieq v5 k0) = true
    · rw [if_pos c6] at h
      cases h
      show LK env [] 0 [0, 3, 4] c76_L0 (some (t_additiveref39_known_L0_st _ _ _)) = some (t_additiveref39_known_L0_out _ _ _)
      simp only [t_additiveref39_known_L0_st, t_additiveref39_known_L0_out]
      rw [LK_step]
      simp (maxSteps := 4000000) [c2, c6, f3]
    · rw [if_neg c6] at h
      rw [Bool.not_eq_true] at c6
      cases h
      show LK env [] 0 [0, 3, 4] c76_L0 (some (t_additiveref39_known_L0_st _ _ _)) = LK env [] 0 [0, 3, 4] c76_L0 (some (t_additiveref39_known_L0_st _ _ _))
      simp only [t_additiveref39_known_L0_st]
      rw [LK_step]
      simp (maxSteps := 4000000) [c2, c6, f3]
 · rw [if_neg c2] at h
   rw [Bool.not_eq_true] at c2
   cases h
   show LK env [] 0 [0, 3, 4] c76_L0 (some (t_additiveref39_known_L0_st _ _ _)) = some (t_additiveref39_known_L0_out _ _ _)
   simp only [t_additiveref39_known_L0_st, t_additiveref39_known_L0_out]
   rw [LK_step]
   simp (maxSteps := 4000000) [c2]) bigN s r h
def t_additiveref39_known (p0 : Int) : Option Bool := (match loopT (t_additiveref39_known_L0 p0 u_additiveref39_Codes) bigN 0 with
 | none => none
 | some v8 => (match v8 with
 | .inl v8x => some v8x
 | .inr v8x => some false))
theorem t_additiveref39_known_ok {p0 : Int} {r : Bool} (h : t_additiveref39_known p0 = some r) : FC env 76 [.int .i64 p0] none = some (.bool r, fun _ => none) := by
 unfold t_additiveref39_known at h
 have f1 := u_additiveref39_Codes_ok 
 cases h7 : loopT (t_additiveref39_known_L0 p0 u_additiveref39_Codes) bigN 0 with
 | none => (rw [h7] at h; cases h)
 | some v8 =>
  simp only [h7] at h
  have f9 := t_additiveref39_known_L0_ok h7
  cases v8 with
  | inl v8x =>
   try simp only at h
   simp only [t_additiveref39_known_L0_st, t_additiveref39_known_L0_out, fset_len] at f9
   try simp only [fcase_nil, fcase_lst, fcase_fsnoc, fcase_fapp, fcase_fset, fcase_frep, fcase_flit, fcase_flst] at f9
   cases h
   refine FC_pure (lf := lf76) rfl rfl rfl ?_
   simp only [lf76, lc76]
   simp (maxSteps := 4000000) [f1, f9]
  | inr v8x =>
   try simp only at h
   simp only [t_additiveref39_known_L0_st, t_additiveref39_known_L0_out, fset_len] at f9
   try simp only [fcase_nil, fcase_lst, fcase_fsnoc, fcase_fapp, fcase_fset, fcase_frep, fcase_flit, fcase_flst] at f9
   cases h
   refine FC_pure (lf := lf76) rfl rfl rfl ?_
   simp only [lf76, lc76]
   simp (maxSteps := 4000000) [f1, f9]

/-! additiveref39.allowed -/
attribute [simp] c77_0 c77_1 c77_2 c77_3 c77_4 c77_5 c77_6 c77_7 c77_8 c77_9 c77_10 c77_11 c77_12 c77_13
def t_additiveref39_allowed (p0 : Int) : Option Int := (if (ieq p0 0) = true then some 23
 else (if (ieq p0 1) = true then some 31
 else (if (ieq p0 4) = true then some 32
 else (if (ieq p0 1104) = true then some 32
 else (if (ieq p0 1109) = true then some 32
 else (if (ieq p0 1140) = true then some 32
 else (if (ieq p0 1190) = true then some 32
 else (if (ieq p0 1106) = true then some 32
 else some 0))))))))
theorem t_additiveref39_allowed_ok {p0 : Int} {r : Int} (h : t_additiveref39_allowed p0 = some r) : FC env 77 [.int .i64 p0] none = some (.int .i64 r, fun _ => none) := by
 unfold t_additiveref39_allowed at h
 by_cases c1 : (ieq p0 0) = true
 · rw [if_pos c1] at h
   cases h
   refine FC_pure (lf := lf77) rfl rfl rfl ?_
   simp only [lf77, lc77]
   simp (maxSteps := 4000000) [c1]
 · rw [if_neg c1] at h
   rw [Bool.not_eq_true] at c1
   by_cases c2 : (ieq p0 1) = true
   · rw [if_pos c2] at h
     cases h
     refine FC_pure (lf := lf77) rfl rfl rfl ?_
     simp only [lf77, lc77]
     simp (maxSteps := 4000000) [c1, c2]
   · rw [if_neg c2] at h
     rw [Bool.not_eq_true] at c2
     by_cases c3 : (ieq p0 4) = true
     · rw [if_pos c3] at h
       cases h
       refine FC_pure (lf := lf77) rfl rfl rfl ?_
       simp only [lf77, lc77]
       simp (maxSteps := 4000000) [c1, c2, c3]
     · rw [if_neg c3] at h
       rw [Bool.not_eq_true] at c3
       by_cases c4 : (ieq p0 1104) = true
       · rw [if_pos c4] at h
         cases h
         refine FC_pure (lf := lf77) rfl rfl rfl ?_
         simp only [lf77, lc77]
         simp (maxSteps := 4000000) [c1, c2, c3, c4]
       · rw [if_neg c4] at h
         rw [Bool.not_eq_true] at c4
         by_cases c5 : (ieq p0 1109) = true
         · rw [if_pos c5] at h
           cases h
           refine FC_pure (lf := lf77) rfl rfl rfl ?_
           simp only [lf77, lc77]
           simp (maxSteps := 4000000) [c1, c2, c3, c4, c5]
         · rw [if_neg c5] at h
           rw [Bool.not_eq_true] at c5
           by_cases c6 : (ieq p0 1140) = true
           · rw [if_pos c6] at h
             cases h
             refine FC_pure (lf := lf77) rfl rfl rfl ?_
             simp only [lf77, lc77]
             simp (maxSteps := 4000000) [c1, c2, c3, c4, c5, c6]
           · rw [if_neg c6] at h
             rw [Bool.not_eq_true] at c6
             by_cases c7 : (ieq p0 1190) = true
             · rw [if_pos c7] at h
               cases h
               refine FC_pure (lf := lf77) rfl rfl rfl ?_
               simp only [lf77, lc77]
               simp (maxSteps := 4000000) [c1, c2, c3, c4, c5, c6, c7]
             · rw [if_neg c7] at h
               rw [Bool.not_eq_true] at c7
               by_cases c8 : (ieq p0 1106) = true
               · rw [if_pos c8] at h
                 cases h
                 refine FC_pure (lf := lf77) rfl rfl rfl ?_
                 simp only [lf77, lc77]
                 simp (maxSteps := 4000000) [c1, c2, c3, c4, c5, c6, c7, c8]
               · rw [if_neg c8] at h
                 rw [Bool.not_eq_true] at c8
                 cases h
                 refine FC_pure (lf := lf77) rfl rfl rfl ?_
                 simp only [lf77, lc77]
                 simp (maxSteps := 4000000) [c1, c2, c3, c4, c5, c6, c7, c8]

/-! additiveref39.complete -/
attribute [simp] c78_0 c78_1
def t_additiveref39_complete (p0 : Int) (p1 : Int) : Option Bool := (match t_additiveref39_allowed p0 with
 | none => none
 | some v3 => some (bor (ine v3 32) (ieq p1 32)))
theorem t_additiveref39_complete_ok {p0 : Int} {p1 : Int} {r : Bool} (h : t_additiveref39_complete p0 p1 = some r) : FC env 78 [.int .i64 p0, .int .i64 p1] none = some (.bool r, fun _ => none) := by
 unfold t_additiveref39_complete at h
 cases h2 : t_additiveref39_allowed p0 with
 | none => (rw [h2] at h; cases h)
 | some v3 =>
  simp only [h2] at h
  have f1 := t_additiveref39_allowed_ok h2
  cases h
  refine FC_pure (lf := lf78) rfl rfl rfl ?_
  simp only [lf78, lc78]
  rcases tof (ine v3 32) with a4 | a4
  · simp (maxSteps := 4000000) [a4, f1]
  · simp (maxSteps := 4000000) [a4, f1]

/-! additiveref39.fields -/
attribute [simp] c79_0 c79_1
def u_additiveref39_fields (p0 : api_Cmd) : (FS Int) := (flit ([p0.X, p0.Y, p0.Z, p0.E, p0.F, p0.S] : List Int))
def t_additiveref39_fields (p0 : api_Cmd) : Option (FS Int) := some (u_additiveref39_fields p0)
theorem u_additiveref39_fields_ok (p0 : api_Cmd) : FC env 79 [.agg [.int .i64 p0.Code, .int .i64 p0.Has, .int .i64 p0.X, .int .i64 p0.Y, .int .i64 p0.Z, .int .i64 p0.E, .int .i64 p0.F, .int .i64 p0.S]] none = some (encF e_i64 (u_additiveref39_fields p0), fun _ => none) := by
 unfold u_additiveref39_fields
 have f1 : ∀ (H : Heap) (g0 : Nat), bslV H g0 6 1 3 (some [.int .i64 p0.X, .int .i64 p0.Y, .int .i64 p0.Z, .int .i64 p0.E, .int .i64 p0.F, .int .i64 p0.S]) = some (.arr g0 (newVer H g0) 0 (flit ([p0.X, p0.Y, p0.Z, p0.E, p0.F, p0.S] : List Int)).l.length, upd H g0 (some (.arr (newVer H g0) 1 3 (cellsE e_i64 (flit ([p0.X, p0.Y, p0.Z, p0.E, p0.F, p0.S] : List Int)).l) false))) := fun H g0 => rfl
 refine FC_pure (lf := lf79) rfl rfl rfl ?_
 simp only [lf79, lc79]
 simp (maxSteps := 4000000) [f1, snap_rowD (e := e_i64) (el := 3) (fz := false)]
theorem t_additiveref39_fields_ok {p0 : api_Cmd} {r : (FS Int)} (h : t_additiveref39_fields p0 = some r) : FC env 79 [.agg [.int .i64 p0.Code, .int .i64 p0.Has, .int .i64 p0.X, .int .i64 p0.Y, .int .i64 p0.Z, .int .i64 p0.E, .int .i64 p0.F, .int .i64 p0.S]] none = some (encF e_i64 r, fun _ => none) := by
 cases h
 exact u_additiveref39_fields_ok _

/-! additiveref39.ranged -/
attribute [simp] c80_0 c80_1 c80_2 c80_3 c80_4 c80_5 c80_6 c80_7 c80_8 c80_9
def t_additiveref39_ranged (p0 : Int) (p1 : Int) (p2 : Int) : Option Bool := (if (ilt p1 4) = true then some (band (ige p2 (-1073741824)) (ile p2 1073741824))
 else (if (ieq p1 4) = true then some (band (ige p2 1) (ile p2 1048576))
 else (if (ieq p0 4) = true then some (band (ige p2 0) (ile p2 1048576))
 else (if (ieq p0 1106) = true then some (band (ige p2 0) (ile p2 255))
 else some (band (ige p2 0) (ile p2 400000))))))
theorem t_additiveref39_ranged_ok {p0 : Int} {p1 : Int} {p2 : Int} {r : Bool} (h : t_additiveref39_ranged p0 p1 p2 = some r) : FC env 80 [.int .i64 p0, .int .i64 p1, .int .i64 p2] none = some (.bool r, fun _ => none) := by
 unfold t_additiveref39_ranged at h
 by_cases c1 : (ilt p1 4) = true
 · rw [if_pos c1] at h
   cases h
   refine FC_pure (lf := lf80) rfl rfl rfl ?_
   simp only [lf80, lc80]
   rcases tof (ige p2 (-1073741824)) with a2 | a2
   · simp (maxSteps := 4000000) [c1, a2]
   · simp (maxSteps := 4000000) [c1, a2]
 · rw [if_neg c1] at h
   rw [Bool.not_eq_true] at c1
   by_cases c3 : (ieq p1 4) = true
   · rw [if_pos c3] at h
     cases h
     refine FC_pure (lf := lf80) rfl rfl rfl ?_
     simp only [lf80, lc80]
     rcases tof (ige p2 1) with a4 | a4
     · simp (maxSteps := 4000000) [c1, c3, a4]
     · simp (maxSteps := 4000000) [c1, c3, a4]
   · rw [if_neg c3] at h
     rw [Bool.not_eq_true] at c3
     by_cases c5 : (ieq p0 4) = true
     · rw [if_pos c5] at h
       cases h
       refine FC_pure (lf := lf80) rfl rfl rfl ?_
       simp only [lf80, lc80]
       rcases tof (ige p2 0) with a6 | a6
       · simp (maxSteps := 4000000) [c1, c3, c5, a6]
       · simp (maxSteps := 4000000) [c1, c3, c5, a6]
     · rw [if_neg c5] at h
       rw [Bool.not_eq_true] at c5
       by_cases c7 : (ieq p0 1106) = true
       · rw [if_pos c7] at h
         cases h
         refine FC_pure (lf := lf80) rfl rfl rfl ?_
         simp only [lf80, lc80]
         rcases tof (ige p2 0) with a8 | a8
         · simp (maxSteps := 4000000) [c1, c3, c5, c7, a8]
         · simp (maxSteps := 4000000) [c1, c3, c5, c7, a8]
       · rw [if_neg c7] at h
         rw [Bool.not_eq_true] at c7
         cases h
         refine FC_pure (lf := lf80) rfl rfl rfl ?_
         simp only [lf80, lc80]
         rcases tof (ige p2 0) with a9 | a9
         · simp (maxSteps := 4000000) [c1, c3, c5, c7, a9]
         · simp (maxSteps := 4000000) [c1, c3, c5, c7, a9]

/-! additiveref39.Valid -/
attribute [simp] c40_0 c40_1 c40_2 c40_3 c40_4 c40_5 c40_6 c40_7 c40_8 c40_9 c40_11
theorem c40_L0_u (Γ : Env) (ps : List Nat) (σ : St) : EC Γ ps 0 c40_L0 σ = EC Γ ps 0 (.seq (.seq (.reg false c40_5) (.cond (.t 37) .skip (.seq (.trim []) (.exit 0)))) (.seq (.blk 1 (.seq (.reg false c40_6) (.seq (.reg true c40_7) (.cond (.t 69) (.seq (.reg false c40_8) (.seq (.trim [2]) .ret)) .skip)))) (.reg false c40_9))) σ := rfl
attribute [simp ↓] c40_L0_u
def t_additiveref39_Valid_L0 (k0 : api_Cmd) (k1 : (FS Int)) (s : Int) : Option (LR Int (Bool ⊕ Unit)) := match s with
 | s0 => (if (ilt s0 (flen k1)) = true then (if ilt (icnv .u64 s0) 0 = true then none else (match gOpt (ieq (iand .i64 (ishr .i64 k0.Has (icnv .u64 s0)) 1) 1) (fget k1 s0) with
 | none => none
 | some v16 => (match gOpt (ieq (iand .i64 (ishr .i64 k0.Has (icnv .u64 s0)) 1) 1) (t_additiveref39_ranged k0.Code s0 (v16.getD 0)) with
 | none => none
 | some v19 => (match gOpt (band (bnot (band (ieq (iand .i64 (ishr .i64 k0.Has (icnv .u64 s0)) 1) 1) (bnot (v19.getD false)))) (bnot (ieq (iand .i64 (ishr .i64 k0.Has (icnv .u64 s0)) 1) 1))) (fget k1 s0) with
 | none => none
 | some v22 => (if (bor (band (ieq (iand .i64 (ishr .i64 k0.Has (icnv .u64 s0)) 1) 1) (bnot (v19.getD false))) (band (bnot (ieq (iand .i64 (ishr .i64 k0.Has (icnv .u64 s0)) 1) 1)) (ine (v22.getD 0) 0))) = true then some (.dn (.inl false))
 else some (.nx (iadd .i64 s0 1)))))))
 else some (.dn (.inr ())))
def t_additiveref39_Valid_L0_st (k0 : api_Cmd) (k1 : (FS Int)) (s : Int) : St := match s with
 | s0 => ⟨fr [(1, .ptr 1 0 0), (3, encF e_i64 k1), (4, .int .i64 s0)], hl [(1, .box 0 [.int .i64 k0.Code, .int .i64 k0.Has, .int .i64 k0.X, .int .i64 k0.Y, .int .i64 k0.Z, .int .i64 k0.E, .int .i64 k0.F, .int .i64 k0.S])]⟩
def t_additiveref39_Valid_L0_out (k0 : api_Cmd) (k1 : (FS Int)) (x : (Bool ⊕ Unit)) : LE × St := match x with
 | .inl x => (.ret, ⟨fr [(2, .bool x)], hl []⟩)
 | .inr x => (.exit 0, ⟨fr [], hl []⟩)
theorem t_additiveref39_Valid_L0_ok {k0 : api_Cmd} {k1 : (FS Int)} {s : Int} {r : (Bool ⊕ Unit)} (h : loopT (t_additiveref39_Valid_L0 k0 k1) bigN s = some r) : LK env [] 0 [1, 3, 4] c40_L0 (some (t_additiveref39_Valid_L0_st k0 k1 s)) = some (t_additiveref39_Valid_L0_out k0 k1 r) := loop_walk (st := t_additiveref39_Valid_L0_st k0 k1) (out := t_additiveref39_Valid_L0_out k0 k1) (by
 clear h s r
 rintro s0 x h
 simp only [t_additiveref39_Valid_L0] at h
 by_cases c16 : (ilt s0 (flen k1)) = true
 · rw [if_pos c16] at h
   by_cases h17 : ilt (icnv .u64 s0) 0 = true
   · rw [if_pos h17] at h; cases h
   · rw [if_neg h17] at h
     rw [Bool.not_eq_true] at h17
     cases h19 : gOpt (ieq (iand .i64 (ishr .i64 k0.Has (icnv .u64 s0)) 1) 1) (fget k1 s0) with
     | none => (rw [h19] at h; cases h)
     | some v20 =>
      simp only [h19] at h
      have f18 := fun (q0 : (ieq (iand .i64 (ishr .i64 k0.Has (icnv .u64 s0)) 1) 1) = true) => iaddr_F (e := e_i64) (gOpt_getD 0 h19 q0)
      cases h22 : gOpt (ieq (iand .i64 (ishr .i64 k0.Has (icnv .u64 s0)) 1) 1) (t_additiveref39_ranged k0.Code s0 (v20.getD 0)) with
      | none => (rw [h22] at h; cases h)
      | some v23 =>
       simp only [h22] at h
       have f21 := fun (q0 : (ieq (iand .i64 (ishr .i64 k0.Has (icnv .u64 s0)) 1) 1) = true) => t_additiveref39_ranged_ok (gOpt_getD false h22 q0)
       cases h25 : gOpt (band (bnot (band (ieq (iand .i64 (ishr .i64 k0.Has (icnv .u64 s0)) 1) 1) (bnot (v23.getD false)))) (bnot (ieq (iand .i64 (ishr .i64 k0.Has (icnv .u64 s0)) 1) 1))) (fget k1 s0) with
       | none => (rw [h25] at h; cases h)
       | some v26 =>
        simp only [h25] at h
        have f24 := fun (q0 : (band (ieq (iand .i64 (ishr .i64 k0.Has (icnv .u64 s0)) 1) 1) (bnot (v23.getD false))) = false) (q1 : (bnot (ieq (iand .i64 (ishr .i64 k0.Has (icnv .u64 s0)) 1) 1)) = true) => iaddr_F (e := e_i64) (gOpt_getD 0 h25 (band_mk (bnot_mk q0) q1))
        have f27 := fun (q0 : (ieq (iand .i64 (ishr .i64 k0.Has (icnv .u64 s0)) 1) 1) = true) (r0 : (band (ieq (iand .i64 (ishr .i64 k0.Has (icnv .u64 s0)) 1) 1) (bnot (v23.getD false))) = false) (r1 : (bnot (ieq (iand .i64 (ishr .i64 k0.Has (icnv .u64 s0)) 1) 1)) = true) => gOpt_eqD 0 h19 q0 (gOpt_getD 0 h25 (band_mk (bnot_mk r0) r1))
        by_cases c28 : (bor (band (ieq (iand .i64 (ishr .i64 k0.Has (icnv .u64 s0)) 1) 1) (bnot (v23.getD false))) (band (bnot (ieq (iand .i64 (ishr .i64 k0.Has (icnv .u64 s0)) 1) 1)) (ine (v26.getD 0) 0))) = true
        · rw [if_pos c28] at h
          cases h
          show LK env [] 0 [1, 3, 4] c40_L0 (some (t_additiveref39_Valid_L0_st _ _ _)) = some (t_additiveref39_Valid_L0_out _ _ _)
          simp only [t_additiveref39_Valid_L0_st, t_additiveref39_Valid_L0_out]
          rw [LK_step]
          rcases tof (ieq (iand .i64 (ishr .i64 k0.Has (icnv .u64 s0)) 1) 1) with a29 | a29
          · rcases tof (v23.getD false) with a30 | a30
            · simp [c16, a29, a30] at c28
            · simp (maxSteps := 4000000) [c16, a29, a30, h17, f18, f21, f24]
          · rcases tof (ine (v26.getD 0) 0) with a31 | a31
            · simp (maxSteps := 4000000) [c16, a29, a31, h17, f18, f21, f24]
            · simp [c16, a29, a31] at c28
        · rw [if_neg c28] at h
          rw [Bool.not_eq_true] at c28
          cases h
          show LK env [] 0 [1, 3, 4] c40_L0 (some (t_additiveref39_Valid_L0_st _ _ _)) = LK env [] 0 [1, 3, 4] c40_L0 (some (t_additiveref39_Valid_L0_st _ _ _))
          simp only [t_additiveref39_Valid_L0_st]
          rw [LK_step]
          rcases tof (ieq (iand .i64 (ishr .i64 k0.Has (icnv .u64 s0)) 1) 1) with a32 | a32
          · rcases tof (v23.getD false) with a33 | a33
            · simp (maxSteps := 4000000) [c16, a32, a33, h17, f18, f21, f24]
            · simp [c16, a32, a33] at c28
          · rcases tof (ine (v26.getD 0) 0) with a34 | a34
            · simp [c16, a32, a34] at c28
            · simp (maxSteps := 4000000) [c16, a32, a34, h17, f18, f21, f24]
 · rw [if_neg c16] at h
   rw [Bool.not_eq_true] at c16
   cases h
   show LK env [] 0 [1, 3, 4] c40_L0 (some (t_additiveref39_Valid_L0_st _ _ _)) = some (t_additiveref39_Valid_L0_out _ _ _)
   simp only [t_additiveref39_Valid_L0_st, t_additiveref39_Valid_L0_out]
   rw [LK_step]
   simp (maxSteps := 4000000) [c16]) bigN s r h
def t_additiveref39_Valid (p0 : api_Cmd) : Option Bool := (match t_additiveref39_known p0.Code with
 | none => none
 | some v3 => (match gOpt (bnot (bor (bnot v3) (ilt p0.Has 0))) (t_additiveref39_allowed p0.Code) with
 | none => none
 | some v6 => (match gOpt (bnot (bor (bor (bnot v3) (ilt p0.Has 0)) (ine (iandn .i64 p0.Has (v6.getD 0)) 0))) (t_additiveref39_complete p0.Code p0.Has) with
 | none => none
 | some v9 => (if (bor (bor (bor (bnot v3) (ilt p0.Has 0)) (ine (iandn .i64 p0.Has (v6.getD 0)) 0)) (bnot (v9.getD false))) = true then some false
 else (match loopT (t_additiveref39_Valid_L0 p0 (u_additiveref39_fields p0)) bigN 0 with
 | none => none
 | some v26 => (match v26 with
 | .inl v26x => some v26x
 | .inr v26x => some true))))))
theorem t_additiveref39_Valid_ok {p0 : api_Cmd} {r : Bool} (h : t_additiveref39_Valid p0 = some r) : FC env 40 [.agg [.int .i64 p0.Code, .int .i64 p0.Has, .int .i64 p0.X, .int .i64 p0.Y, .int .i64 p0.Z, .int .i64 p0.E, .int .i64 p0.F, .int .i64 p0.S]] none = some (.bool r, fun _ => none) := by
 unfold t_additiveref39_Valid at h
 cases h2 : t_additiveref39_known p0.Code with
 | none => (rw [h2] at h; cases h)
 | some v3 =>
  simp only [h2] at h
  have f1 := t_additiveref39_known_ok h2
  cases h5 : gOpt (bnot (bor (bnot v3) (ilt p0.Has 0))) (t_additiveref39_allowed p0.Code) with
  | none => (rw [h5] at h; cases h)
  | some v6 =>
   simp only [h5] at h
   have f4 := fun (q0 : (bor (bnot v3) (ilt p0.Has 0)) = false) => t_additiveref39_allowed_ok (gOpt_getD 0 h5 (bnot_mk q0))
   cases h8 : gOpt (bnot (bor (bor (bnot v3) (ilt p0.Has 0)) (ine (iandn .i64 p0.Has (v6.getD 0)) 0))) (t_additiveref39_complete p0.Code p0.Has) with
   | none => (rw [h8] at h; cases h)
   | some v9 =>
    simp only [h8] at h
    have f7 := fun (q0 : (bor (bor (bnot v3) (ilt p0.Has 0)) (ine (iandn .i64 p0.Has (v6.getD 0)) 0)) = false) => t_additiveref39_complete_ok (gOpt_getD false h8 (bnot_mk q0))
    by_cases c10 : (bor (bor (bor (bnot v3) (ilt p0.Has 0)) (ine (iandn .i64 p0.Has (v6.getD 0)) 0)) (bnot (v9.getD false))) = true
    · rw [if_pos c10] at h
      cases h
      refine FC_pure (lf := lf40) rfl rfl rfl ?_
      simp only [lf40, lc40]
      rcases tof v3 with a11 | a11
      · rcases tof (ilt p0.Has 0) with a12 | a12
        · simp (maxSteps := 4000000) [a11, a12, f1, f4, f7]
        · rcases tof (ine (iandn .i64 p0.Has (v6.getD 0)) 0) with a13 | a13
          · simp (maxSteps := 4000000) [a11, a12, a13, f1, f4, f7]
          · rcases tof (v9.getD false) with a14 | a14
            · simp [a11, a12, a13, a14] at c10
            · simp (maxSteps := 4000000) [a11, a12, a13, a14, f1, f4, f7]
      · simp (maxSteps := 4000000) [a11, f1, f4, f7]
    · rw [if_neg c10] at h
      rw [Bool.not_eq_true] at c10
      have f15 := u_additiveref39_fields_ok p0
      cases h35 : loopT (t_additiveref39_Valid_L0 p0 (u_additiveref39_fields p0)) bigN 0 with
      | none => (rw [h35] at h; cases h)
      | some v36 =>
       simp only [h35] at h
       have f37 := t_additiveref39_Valid_L0_ok h35
       cases v36 with
       | inl v36x =>
        try simp only at h
        simp only [t_additiveref39_Valid_L0_st, t_additiveref39_Valid_L0_out, fset_len] at f37
        try simp only [fcase_nil, fcase_lst, fcase_fsnoc, fcase_fapp, fcase_fset, fcase_frep, fcase_flit, fcase_flst] at f37
        cases h
        refine FC_pure (lf := lf40) rfl rfl rfl ?_
        simp only [lf40, lc40]
        rcases tof v3 with a38 | a38
        · rcases tof (ilt p0.Has 0) with a39 | a39
          · simp [a38, a39] at c10
          · rcases tof (ine (iandn .i64 p0.Has (v6.getD 0)) 0) with a40 | a40
            · simp [a38, a39, a40] at c10
            · rcases tof (v9.getD false) with a41 | a41
              · try simp only [a38, a39, a40, a41] at f37
                simp (maxSteps := 4000000) [a38, a39, a40, a41, f1, f4, f7, f15, f37]
              · simp [a38, a39, a40, a41] at c10
        · simp [a38] at c10
       | inr v36x =>
        try simp only at h
        simp only [t_additiveref39_Valid_L0_st, t_additiveref39_Valid_L0_out, fset_len] at f37
        try simp only [fcase_nil, fcase_lst, fcase_fsnoc, fcase_fapp, fcase_fset, fcase_frep, fcase_flit, fcase_flst] at f37
        cases h
        refine FC_pure (lf := lf40) rfl rfl rfl ?_
        simp only [lf40, lc40]
        rcases tof v3 with a42 | a42
        · rcases tof (ilt p0.Has 0) with a43 | a43
          · simp [a42, a43] at c10
          · rcases tof (ine (iandn .i64 p0.Has (v6.getD 0)) 0) with a44 | a44
            · simp [a42, a43, a44] at c10
            · rcases tof (v9.getD false) with a45 | a45
              · try simp only [a42, a43, a44, a45] at f37
                simp (maxSteps := 4000000) [a42, a43, a44, a45, f1, f4, f7, f15, f37]
              · simp [a42, a43, a44, a45] at c10
        · simp [a42] at c10

/-! additiveref40.state).add -/
attribute [simp] c106_0 c106_1 c106_2 c106_3 c106_4 c106_5 c106_6 c106_7
def t_additiveref40_state_add (p0 : additiveref40_state) (p1 : api_Cmd) (p2 : Int) : Option additiveref40_state := (if (band (ine p2 0) (ine p2 p0.Feed)) = true then (match t_additiveref39_Valid (⟨p1.Code, (iadd .i64 p1.Has 16), p1.X, p1.Y, p1.Z, p1.E, p2, p1.S⟩ : api_Cmd) with
 | none => none
 | some v4 => (if (bnot v4) = true then (if fits 64 ((flen p0.Out) + 1) = true then some (⟨p0.S, p0.At, p0.Cells, p2, (fsnoc p0.Out (⟨p1.Code, (iadd .i64 p1.Has 16), p1.X, p1.Y, p1.Z, p1.E, p2, p1.S⟩ : api_Cmd)), true⟩ : additiveref40_state) else none)
 else (if fits 64 ((flen p0.Out) + 1) = true then some (⟨p0.S, p0.At, p0.Cells, p2, (fsnoc p0.Out (⟨p1.Code, (iadd .i64 p1.Has 16), p1.X, p1.Y, p1.Z, p1.E, p2, p1.S⟩ : api_Cmd)), p0.Bad⟩ : additiveref40_state) else none)))
 else (match t_additiveref39_Valid p1 with
 | none => none
 | some v12 => (if (bnot v12) = true then (if fits 64 ((flen p0.Out) + 1) = true then some (⟨p0.S, p0.At, p0.Cells, p0.Feed, (fsnoc p0.Out p1), true⟩ : additiveref40_state) else none)
 else (if fits 64 ((flen p0.Out) + 1) = true then some (⟨p0.S, p0.At, p0.Cells, p0.Feed, (fsnoc p0.Out p1), p0.Bad⟩ : additiveref40_state) else none))))
theorem t_additiveref40_state_add_okN {p0 : additiveref40_state} {p1 : api_Cmd} {p2 : Int} (e04 : p0.Out = FS.nil) {r : additiveref40_state} (h : t_additiveref40_state_add p0 p1 p2 = some r) : FC env 106 [.ptr 0 0 0, .agg [.int .i64 p1.Code, .int .i64 p1.Has, .int .i64 p1.X, .int .i64 p1.Y, .int .i64 p1.Z, .int .i64 p1.E, .int .i64 p1.F, .int .i64 p1.S], .int .i64 p2] (some (hl [(0, .box 0 [.int .i64 p0.S.Pitch, .int .i64 p0.S.Height, .int .i64 p0.S.Walls, .int .i64 p0.S.Top, .int .i64 p0.S.Bottom, .int .i64 p0.S.Pattern, .int .i64 p0.S.Spacing, .bool p0.S.Support, .int .i64 p0.S.Reach, .int .i64 p0.S.Gap, .int .i64 p0.S.Brim, .int .i64 p0.S.Skirt, .int .i64 p0.S.Drop, .int .i64 p0.S.Feed, .int .i64 p0.S.Travel, .int .i64 p0.S.Retract, .int .i64 p0.S.MinTime, .int .i64 p0.S.MinFeed, .int .i64 p0.S.Nozzle, .int .i64 p0.S.Bed, .int .i64 p0.At.X, .int .i64 p0.At.Y, .int .i64 p0.Cells, .int .i64 p0.Feed, .nils, .bool p0.Bad])], 0)) = some (.tup [], hl [(0, .box 0 [.int .i64 r.S.Pitch, .int .i64 r.S.Height, .int .i64 r.S.Walls, .int .i64 r.S.Top, .int .i64 r.S.Bottom, .int .i64 r.S.Pattern, .int .i64 r.S.Spacing, .bool r.S.Support, .int .i64 r.S.Reach, .int .i64 r.S.Gap, .int .i64 r.S.Brim, .int .i64 r.S.Skirt, .int .i64 r.S.Drop, .int .i64 r.S.Feed, .int .i64 r.S.Travel, .int .i64 r.S.Retract, .int .i64 r.S.MinTime, .int .i64 r.S.MinFeed, .int .i64 r.S.Nozzle, .int .i64 r.S.Bed, .int .i64 r.At.X, .int .i64 r.At.Y, .int .i64 r.Cells, .int .i64 r.Feed, .arr 1000024 0 0 r.Out.l.length, .bool r.Bad]), (1000024, .arr 0 8 55 (cellsE e_api_Cmd r.Out.l) false)]) ∧ ∃ l, r.Out = FS.lst l := by
 unfold t_additiveref40_state_add at h
 simp only [e04, flen_nil] at h
 by_cases c1 : (band (ine p2 0) (ine p2 p0.Feed)) = true
 · rw [if_pos c1] at h
   cases h3 : t_additiveref39_Valid (⟨p1.Code, (iadd .i64 p1.Has 16), p1.X, p1.Y, p1.Z, p1.E, p2, p1.S⟩ : api_Cmd) with
   | none => (rw [h3] at h; cases h)
   | some v4 =>
    simp only [h3] at h
    have f2 := t_additiveref39_Valid_ok h3
    by_cases c5 : (bnot v4) = true
    · rw [if_pos c5] at h
      by_cases h7 : fits 64 (0 + 1) = true
      · rw [if_pos h7] at h
        have f6 := fun H g0 hg y => @app_nil _ _ e_api_Cmd _ (⟨p1.Code, (iadd .i64 p1.Has 16), p1.X, p1.Y, p1.Z, p1.E, p2, p1.S⟩ : api_Cmd) 64 h7 (by decide) H g0 55 y hg
        simp only [e_api_Cmd] at f6
        cases h
        refine ⟨?_, by first | exact ⟨_, rfl⟩ | exact ⟨_, by assumption⟩⟩
        refine FC_byref (lf := lf106) rfl rfl rfl ?_
        simp only [lf106, lc106]
        rcases tof (ine p2 0) with a8 | a8
        · rcases tof (ine p2 p0.Feed) with a9 | a9
          · rcases tof v4 with a10 | a10
            · simp [a8, a9, a10] at c5
            · simp (maxSteps := 4000000) [a8, a9, a10, e04, f2, f6]
          · simp [a8, a9] at c1
        · simp [a8] at c1
      · rw [if_neg h7] at h; cases h
    · rw [if_neg c5] at h
      rw [Bool.not_eq_true] at c5
      by_cases h12 : fits 64 (0 + 1) = true
      · rw [if_pos h12] at h
        have f11 := fun H g0 hg y => @app_nil _ _ e_api_Cmd _ (⟨p1.Code, (iadd .i64 p1.Has 16), p1.X, p1.Y, p1.Z, p1.E, p2, p1.S⟩ : api_Cmd) 64 h12 (by decide) H g0 55 y hg
        simp only [e_api_Cmd] at f11
        cases h
        refine ⟨?_, by first | exact ⟨_, rfl⟩ | exact ⟨_, by assumption⟩⟩
        refine FC_byref (lf := lf106) rfl rfl rfl ?_
        simp only [lf106, lc106]
        rcases tof (ine p2 0) with a13 | a13
        · rcases tof (ine p2 p0.Feed) with a14 | a14
          · rcases tof v4 with a15 | a15
            · simp (maxSteps := 4000000) [a13, a14, a15, e04, f2, f11]
            · simp [a13, a14, a15] at c5
          · simp [a13, a14] at c1
        · simp [a13] at c1
      · rw [if_neg h12] at h; cases h
 · rw [if_neg c1] at h
   rw [Bool.not_eq_true] at c1
   cases h17 : t_additiveref39_Valid p1 with
   | none => (rw [h17] at h; cases h)
   | some v18 =>
    simp only [h17] at h
    have f16 := t_additiveref39_Valid_ok h17
    by_cases c19 : (bnot v18) = true
    · rw [if_pos c19] at h
      by_cases h21 : fits 64 (0 + 1) = true
      · rw [if_pos h21] at h
        have f20 := fun H g0 hg y => @app_nil _ _ e_api_Cmd _ p1 64 h21 (by decide) H g0 55 y hg
        simp only [e_api_Cmd] at f20
        cases h
        refine ⟨?_, by first | exact ⟨_, rfl⟩ | exact ⟨_, by assumption⟩⟩
        refine FC_byref (lf := lf106) rfl rfl rfl ?_
        simp only [lf106, lc106]
        rcases tof (ine p2 0) with a22 | a22
        · rcases tof (ine p2 p0.Feed) with a23 | a23
          · simp [a22, a23] at c1
          · rcases tof v18 with a24 | a24
            · simp [a22, a23, a24] at c19
            · simp (maxSteps := 4000000) [a22, a23, a24, e04, f16, f20]
        · rcases tof v18 with a25 | a25
          · simp [a22, a25] at c19
          · simp (maxSteps := 4000000) [a22, a25, e04, f16, f20]
      · rw [if_neg h21] at h; cases h
    · rw [if_neg c19] at h
      rw [Bool.not_eq_true] at c19
      by_cases h27 : fits 64 (0 + 1) = true
      · rw [if_pos h27] at h
        have f26 := fun H g0 hg y => @app_nil _ _ e_api_Cmd _ p1 64 h27 (by decide) H g0 55 y hg
        simp only [e_api_Cmd] at f26
        cases h
        refine ⟨?_, by first | exact ⟨_, rfl⟩ | exact ⟨_, by assumption⟩⟩
        refine FC_byref (lf := lf106) rfl rfl rfl ?_
        simp only [lf106, lc106]
        rcases tof (ine p2 0) with a28 | a28
        · rcases tof (ine p2 p0.Feed) with a29 | a29
          · simp [a28, a29] at c1
          · rcases tof v18 with a30 | a30
            · simp (maxSteps := 4000000) [a28, a29, a30, e04, f16, f26]
            · simp [a28, a29, a30] at c19
        · rcases tof v18 with a31 | a31
          · simp (maxSteps := 4000000) [a28, a31, e04, f16, f26]
          · simp [a28, a31] at c19
      · rw [if_neg h27] at h; cases h
theorem t_additiveref40_state_add_okO {p0 : additiveref40_state} {p1 : api_Cmd} {p2 : Int} {le04 : List api_Cmd} (e04 : p0.Out = FS.lst le04) {r : additiveref40_state} (h : t_additiveref40_state_add p0 p1 p2 = some r) : FC env 106 [.ptr 0 0 0, .agg [.int .i64 p1.Code, .int .i64 p1.Has, .int .i64 p1.X, .int .i64 p1.Y, .int .i64 p1.Z, .int .i64 p1.E, .int .i64 p1.F, .int .i64 p1.S], .int .i64 p2] (some (hl [(0, .box 0 [.int .i64 p0.S.Pitch, .int .i64 p0.S.Height, .int .i64 p0.S.Walls, .int .i64 p0.S.Top, .int .i64 p0.S.Bottom, .int .i64 p0.S.Pattern, .int .i64 p0.S.Spacing, .bool p0.S.Support, .int .i64 p0.S.Reach, .int .i64 p0.S.Gap, .int .i64 p0.S.Brim, .int .i64 p0.S.Skirt, .int .i64 p0.S.Drop, .int .i64 p0.S.Feed, .int .i64 p0.S.Travel, .int .i64 p0.S.Retract, .int .i64 p0.S.MinTime, .int .i64 p0.S.MinFeed, .int .i64 p0.S.Nozzle, .int .i64 p0.S.Bed, .int .i64 p0.At.X, .int .i64 p0.At.Y, .int .i64 p0.Cells, .int .i64 p0.Feed, .arr 1000024 0 0 p0.Out.l.length, .bool p0.Bad]), (1000024, .arr 0 8 55 (cellsE e_api_Cmd p0.Out.l) false)], 0)) = some (.tup [], hl [(0, .box 0 [.int .i64 r.S.Pitch, .int .i64 r.S.Height, .int .i64 r.S.Walls, .int .i64 r.S.Top, .int .i64 r.S.Bottom, .int .i64 r.S.Pattern, .int .i64 r.S.Spacing, .bool r.S.Support, .int .i64 r.S.Reach, .int .i64 r.S.Gap, .int .i64 r.S.Brim, .int .i64 r.S.Skirt, .int .i64 r.S.Drop, .int .i64 r.S.Feed, .int .i64 r.S.Travel, .int .i64 r.S.Retract, .int .i64 r.S.MinTime, .int .i64 r.S.MinFeed, .int .i64 r.S.Nozzle, .int .i64 r.S.Bed, .int .i64 r.At.X, .int .i64 r.At.Y, .int .i64 r.Cells, .int .i64 r.Feed, .arr 1000024 0 0 r.Out.l.length, .bool r.Bad]), (1000024, .arr 0 8 55 (cellsE e_api_Cmd r.Out.l) false)]) ∧ ∃ l, r.Out = FS.lst l := by
 unfold t_additiveref40_state_add at h
 simp only [e04, flen_nil] at h
 by_cases c1 : (band (ine p2 0) (ine p2 p0.Feed)) = true
 · rw [if_pos c1] at h
   cases h3 : t_additiveref39_Valid (⟨p1.Code, (iadd .i64 p1.Has 16), p1.X, p1.Y, p1.Z, p1.E, p2, p1.S⟩ : api_Cmd) with
   | none => (rw [h3] at h; cases h)
   | some v4 =>
    simp only [h3] at h
    have f2 := t_additiveref39_Valid_ok h3
    by_cases c5 : (bnot v4) = true
    · rw [if_pos c5] at h
      by_cases h7 : fits 64 ((flen (FS.lst le04)) + 1) = true
      · rw [if_pos h7] at h
        have f6 := fun g0 H y => @app_row1 _ _ e_api_Cmd _ (FS.lst le04) (⟨p1.Code, (iadd .i64 p1.Has 16), p1.X, p1.Y, p1.Z, p1.E, p2, p1.S⟩ : api_Cmd) 64 h7 (by decide) g0 H 1000024 0 55 y
        simp only [e_api_Cmd] at f6
        cases h
        refine ⟨?_, by first | exact ⟨_, rfl⟩ | exact ⟨_, by assumption⟩⟩
        refine FC_byref (lf := lf106) rfl rfl rfl ?_
        simp only [lf106, lc106]
        rcases tof (ine p2 0) with a8 | a8
        · rcases tof (ine p2 p0.Feed) with a9 | a9
          · rcases tof v4 with a10 | a10
            · simp [a8, a9, a10] at c5
            · simp (maxSteps := 4000000) [a8, a9, a10, e04, f2, f6]
          · simp [a8, a9] at c1
        · simp [a8] at c1
      · rw [if_neg h7] at h; cases h
    · rw [if_neg c5] at h
      rw [Bool.not_eq_true] at c5
      by_cases h12 : fits 64 ((flen (FS.lst le04)) + 1) = true
      · rw [if_pos h12] at h
        have f11 := fun g0 H y => @app_row1 _ _ e_api_Cmd _ (FS.lst le04) (⟨p1.Code, (iadd .i64 p1.Has 16), p1.X, p1.Y, p1.Z, p1.E, p2, p1.S⟩ : api_Cmd) 64 h12 (by decide) g0 H 1000024 0 55 y
        simp only [e_api_Cmd] at f11
        cases h
        refine ⟨?_, by first | exact ⟨_, rfl⟩ | exact ⟨_, by assumption⟩⟩
        refine FC_byref (lf := lf106) rfl rfl rfl ?_
        simp only [lf106, lc106]
        rcases tof (ine p2 0) with a13 | a13
        · rcases tof (ine p2 p0.Feed) with a14 | a14
          · rcases tof v4 with a15 | a15
            · simp (maxSteps := 4000000) [a13, a14, a15, e04, f2, f11]
            · simp [a13, a14, a15] at c5
          · simp [a13, a14] at c1
        · simp [a13] at c1
      · rw [if_neg h12] at h; cases h
 · rw [if_neg c1] at h
   rw [Bool.not_eq_true] at c1
   cases h17 : t_additiveref39_Valid p1 with
   | none => (rw [h17] at h; cases h)
   | some v18 =>
    simp only [h17] at h
    have f16 := t_additiveref39_Valid_ok h17
    by_cases c19 : (bnot v18) = true
    · rw [if_pos c19] at h
      by_cases h21 : fits 64 ((flen (FS.lst le04)) + 1) = true
      · rw [if_pos h21] at h
        have f20 := fun g0 H y => @app_row1 _ _ e_api_Cmd _ (FS.lst le04) p1 64 h21 (by decide) g0 H 1000024 0 55 y
        simp only [e_api_Cmd] at f20
        cases h
        refine ⟨?_, by first | exact ⟨_, rfl⟩ | exact ⟨_, by assumption⟩⟩
        refine FC_byref (lf := lf106) rfl rfl rfl ?_
        simp only [lf106, lc106]
        rcases tof (ine p2 0) with a22 | a22
        · rcases tof (ine p2 p0.Feed) with a23 | a23
          · simp [a22, a23] at c1
          · rcases tof v18 with a24 | a24
            · simp [a22, a23, a24] at c19
            · simp (maxSteps := 4000000) [a22, a23, a24, e04, f16, f20]
        · rcases tof v18 with a25 | a25
          · simp [a22, a25] at c19
          · simp (maxSteps := 4000000) [a22, a25, e04, f16, f20]
      · rw [if_neg h21] at h; cases h
    · rw [if_neg c19] at h
      rw [Bool.not_eq_true] at c19
      by_cases h27 : fits 64 ((flen (FS.lst le04)) + 1) = true
      · rw [if_pos h27] at h
        have f26 := fun g0 H y => @app_row1 _ _ e_api_Cmd _ (FS.lst le04) p1 64 h27 (by decide) g0 H 1000024 0 55 y
        simp only [e_api_Cmd] at f26
        cases h
        refine ⟨?_, by first | exact ⟨_, rfl⟩ | exact ⟨_, by assumption⟩⟩
        refine FC_byref (lf := lf106) rfl rfl rfl ?_
        simp only [lf106, lc106]
        rcases tof (ine p2 0) with a28 | a28
        · rcases tof (ine p2 p0.Feed) with a29 | a29
          · simp [a28, a29] at c1
          · rcases tof v18 with a30 | a30
            · simp (maxSteps := 4000000) [a28, a29, a30, e04, f16, f26]
            · simp [a28, a29, a30] at c19
        · rcases tof v18 with a31 | a31
          · simp (maxSteps := 4000000) [a28, a31, e04, f16, f26]
          · simp [a28, a31] at c19
      · rw [if_neg h27] at h; cases h

/-! additiveref40.state).amount -/
attribute [simp] c122_0 c122_1
def t_additiveref40_state_amount (p0 : additiveref40_state) (p1 : Int) : Option Int := (match t_additiveref35_Volume (iadd .i64 p0.Cells p1) p0.S with
 | none => none
 | some v3 => (if ieq p0.S.Drop 0 = true then none else some (iquo .i64 v3 p0.S.Drop)))
theorem t_additiveref40_state_amount_ok {p0 : additiveref40_state} {p1 : Int} {r : Int} (h : t_additiveref40_state_amount p0 p1 = some r) : FC env 122 [.rptr [.int .i64 p0.S.Pitch, .int .i64 p0.S.Height, .int .i64 p0.S.Walls, .int .i64 p0.S.Top, .int .i64 p0.S.Bottom, .int .i64 p0.S.Pattern, .int .i64 p0.S.Spacing, .bool p0.S.Support, .int .i64 p0.S.Reach, .int .i64 p0.S.Gap, .int .i64 p0.S.Brim, .int .i64 p0.S.Skirt, .int .i64 p0.S.Drop, .int .i64 p0.S.Feed, .int .i64 p0.S.Travel, .int .i64 p0.S.Retract, .int .i64 p0.S.MinTime, .int .i64 p0.S.MinFeed, .int .i64 p0.S.Nozzle, .int .i64 p0.S.Bed, .int .i64 p0.At.X, .int .i64 p0.At.Y, .int .i64 p0.Cells, .int .i64 p0.Feed, encF e_api_Cmd p0.Out, .bool p0.Bad], .int .i64 p1] none = some (.int .i64 r, fun _ => none) := by
 unfold t_additiveref40_state_amount at h
 cases h2 : t_additiveref35_Volume (iadd .i64 p0.Cells p1) p0.S with
 | none => (rw [h2] at h; cases h)
 | some v3 =>
  simp only [h2] at h
  have f1 := t_additiveref35_Volume_ok h2
  by_cases h4 : ieq p0.S.Drop 0 = true
  · rw [if_pos h4] at h; cases h
  · rw [if_neg h4] at h
    rw [Bool.not_eq_true] at h4
    cases h
    refine FC_pure (lf := lf122) rfl rfl rfl ?_
    simp only [lf122, lc122]
    simp (maxSteps := 4000000) [f1, h4]

/-! additiveref40.turns -/
attribute [simp] c111_0 c111_1
def u_additiveref40_turns (p0 : api_Cell) (p1 : api_Cell) (p2 : api_Cell) : Bool := (bor (ine (isub .i64 p1.X p0.X) (isub .i64 p2.X p1.X)) (ine (isub .i64 p1.Y p0.Y) (isub .i64 p2.Y p1.Y)))
def t_additiveref40_turns (p0 : api_Cell) (p1 : api_Cell) (p2 : api_Cell) : Option Bool := some (u_additiveref40_turns p0 p1 p2)
theorem u_additiveref40_turns_ok (p0 : api_Cell) (p1 : api_Cell) (p2 : api_Cell) : FC env 111 [.agg [.int .i64 p0.X, .int .i64 p0.Y], .agg [.int .i64 p1.X, .int .i64 p1.Y], .agg [.int .i64 p2.X, .int .i64 p2.Y]] none = some (.bool (u_additiveref40_turns p0 p1 p2), fun _ => none) := by
 unfold u_additiveref40_turns
 refine FC_pure (lf := lf111) rfl rfl rfl ?_
 simp only [lf111, lc111]
 rcases tof (ine (isub .i64 p1.X p0.X) (isub .i64 p2.X p1.X)) with a1 | a1
 · simp (maxSteps := 4000000) [a1]
 · simp (maxSteps := 4000000) [a1]
theorem t_additiveref40_turns_ok {p0 : api_Cell} {p1 : api_Cell} {p2 : api_Cell} {r : Bool} (h : t_additiveref40_turns p0 p1 p2 = some r) : FC env 111 [.agg [.int .i64 p0.X, .int .i64 p0.Y], .agg [.int .i64 p1.X, .int .i64 p1.Y], .agg [.int .i64 p2.X, .int .i64 p2.Y]] none = some (.bool r, fun _ => none) := by
 cases h
 exact u_additiveref40_turns_ok _ _ _

/-! additiveref40.corners -/
attribute [simp] c86_0 c86_1 c86_2 c86_3 c86_4 c86_5 c86_6 c86_7 c86_8 c86_10
theorem c86_L0_u (Γ : Env) (ps : List Nat) (σ : St) : EC Γ ps 0 c86_L0 σ = EC Γ ps 0 (.seq (.seq (.reg false c86_4) (.cond (.t 12) .skip (.seq (.trim [5]) (.exit 0)))) (.seq (.blk 1 (.seq (.seq (.reg true c86_5) (.cond (.t 32) (.reg false c86_6) .skip)) (.reg false c86_7))) (.reg false c86_8))) σ := rfl
attribute [simp ↓] c86_L0_u
def t_additiveref40_corners_L0 (k0 : (FS api_Cell)) (s : ((FS Int) × api_Cell × Int)) : Option (LR ((FS Int) × api_Cell × Int) (FS Int)) := match s with
 | (s0, s1, s2) => (if (ilt s2 (flen k0)) = true then (match gOpt (bnot (ieq s2 (isub .i64 (flen k0) 1))) (fget k0 s2) with
 | none => none
 | some v4 => (match gOpt (bnot (ieq s2 (isub .i64 (flen k0) 1))) (fget k0 (iadd .i64 s2 1)) with
 | none => none
 | some v7 => (if (bor (ieq s2 (isub .i64 (flen k0) 1)) (u_additiveref40_turns s1 (v4.getD (⟨0, 0⟩ : api_Cell)) (v7.getD (⟨0, 0⟩ : api_Cell)))) = true then (if fits 8 ((flen s0) + 1) = true then (match fget k0 s2 with
 | none => none
 | some v14 => some (.nx ((fsnoc s0 s2), v14, (iadd .i64 s2 1)))) else none)
 else (match fget k0 s2 with
 | none => none
 | some v18 => some (.nx (s0, v18, (iadd .i64 s2 1)))))))
 else some (.dn s0))
def t_additiveref40_corners_L0_st (k0 : (FS api_Cell)) (s : ((FS Int) × api_Cell × Int)) : St := match s with
 | (s0, s1, s2) => (fcase s0 (⟨fr [(0, encF e_api_Cell k0), (5, .nils), (6, .ptr 6 0 0), (7, .int .i64 s2)], hl [(6, .box 0 [.int .i64 s1.X, .int .i64 s1.Y])]⟩)
  (fun l0 => ⟨fr [(0, encF e_api_Cell k0), (5, .arr 5 0 0 l0.l.length), (6, .ptr 6 0 0), (7, .int .i64 s2)], hl [(5, .arr 0 1 3 (cellsE e_i64 l0.l) false), (6, .box 0 [.int .i64 s1.X, .int .i64 s1.Y])]⟩))
def t_additiveref40_corners_L0_out (k0 : (FS api_Cell)) (x : (FS Int)) : LE × St := (fcase x (.exit 0, ⟨fr [(5, .nils)], hl []⟩)
  (fun l0 => (.exit 0, ⟨fr [(5, .arr 5 0 0 l0.l.length)], hl [(5, .arr 0 1 3 (cellsE e_i64 l0.l) false)]⟩)))
theorem t_additiveref40_corners_L0_ok {k0 : (FS api_Cell)} {s : ((FS Int) × api_Cell × Int)} {r : (FS Int)} (h : loopT (t_additiveref40_corners_L0 k0) bigN s = some r) : LK env [] 0 [0, 5, 6, 7] c86_L0 (some (t_additiveref40_corners_L0_st k0 s)) = some (t_additiveref40_corners_L0_out k0 r) := loop_walk (st := t_additiveref40_corners_L0_st k0) (out := t_additiveref40_corners_L0_out k0) (by
 clear h s r
 rintro ⟨s0, s1, s2⟩ x h
 simp only [t_additiveref40_corners_L0] at h
 cases e2 : s0 with
 | nil =>
  try simp only [e2, flen_nil] at h
  by_cases c3 : (ilt s2 (flen k0)) = true
  · rw [if_pos c3] at h
    cases h5 : gOpt (bnot (ieq s2 (isub .i64 (flen k0) 1))) (fget k0 s2) with
    | none => (rw [h5] at h; cases h)
    | some v6 =>
     simp only [h5] at h
     have f4 := fun (q0 : (ieq s2 (isub .i64 (flen k0) 1)) = false) => iaddr_F (e := e_api_Cell) (gOpt_getD (⟨0, 0⟩ : api_Cell) h5 (bnot_mk q0))
     cases h8 : gOpt (bnot (ieq s2 (isub .i64 (flen k0) 1))) (fget k0 (iadd .i64 s2 1)) with
     | none => (rw [h8] at h; cases h)
     | some v9 =>
      simp only [h8] at h
      have f7 := fun (q0 : (ieq s2 (isub .i64 (flen k0) 1)) = false) => iaddr_F (e := e_api_Cell) (gOpt_getD (⟨0, 0⟩ : api_Cell) h8 (bnot_mk q0))
      have f10 := u_additiveref40_turns_ok s1 (v6.getD (⟨0, 0⟩ : api_Cell)) (v9.getD (⟨0, 0⟩ : api_Cell))
      by_cases c11 : (bor (ieq s2 (isub .i64 (flen k0) 1)) (u_additiveref40_turns s1 (v6.getD (⟨0, 0⟩ : api_Cell)) (v9.getD (⟨0, 0⟩ : api_Cell)))) = true
      · rw [if_pos c11] at h
        by_cases h13 : fits 8 (0 + 1) = true
        · rw [if_pos h13] at h
          have f12 := fun H g0 hg y => @app_nil _ _ e_i64 _ s2 8 h13 (by decide) H g0 3 y hg
          simp only [e_i64] at f12
          cases h15 : fget k0 s2 with
          | none => (rw [h15] at h; cases h)
          | some v16 =>
           simp only [h15] at h
           have f14 := iaddr_F (e := e_api_Cell) h15
           have f17 := fun (q0 : (ieq s2 (isub .i64 (flen k0) 1)) = false) => gOpt_eqD (⟨0, 0⟩ : api_Cell) h5 (bnot_mk q0) h15
           cases h
           show LK env [] 0 [0, 5, 6, 7] c86_L0 (some (t_additiveref40_corners_L0_st _ _)) = LK env [] 0 [0, 5, 6, 7] c86_L0 (some (t_additiveref40_corners_L0_st _ _))
           simp only [t_additiveref40_corners_L0_st, e2]
           rw [LK_step]
           rcases tof (ieq s2 (isub .i64 (flen k0) 1)) with a18 | a18
           · simp (maxSteps := 4000000) [c3, a18, e2, f4, f7, f10, f12, f14]
           · rcases tof (u_additiveref40_turns s1 (v6.getD (⟨0, 0⟩ : api_Cell)) (v9.getD (⟨0, 0⟩ : api_Cell))) with a19 | a19
             · have gf17 := f17 (by simp [c3, a18, a19])
               try simp only [gf17] at f4 f7 f10 f12 f14 c3 a18 a19
               simp (maxSteps := 4000000) [c3, a18, a19, gf17, e2, f4, f7, f10, f12, f14]
             · simp [c3, a18, a19] at c11
        · rw [if_neg h13] at h; cases h
      · rw [if_neg c11] at h
        rw [Bool.not_eq_true] at c11
        cases h21 : fget k0 s2 with
        | none => (rw [h21] at h; cases h)
        | some v22 =>
         simp only [h21] at h
         have f20 := iaddr_F (e := e_api_Cell) h21
         have f23 := fun (q0 : (ieq s2 (isub .i64 (flen k0) 1)) = false) => gOpt_eqD (⟨0, 0⟩ : api_Cell) h5 (bnot_mk q0) h21
         cases h
         show LK env [] 0 [0, 5, 6, 7] c86_L0 (some (t_additiveref40_corners_L0_st _ _)) = LK env [] 0 [0, 5, 6, 7] c86_L0 (some (t_additiveref40_corners_L0_st _ _))
         simp only [t_additiveref40_corners_L0_st, e2]
         rw [LK_step]
         rcases tof (ieq s2 (isub .i64 (flen k0) 1)) with a24 | a24
         · simp [c3, a24] at c11
         · rcases tof (u_additiveref40_turns s1 (v6.getD (⟨0, 0⟩ : api_Cell)) (v9.getD (⟨0, 0⟩ : api_Cell))) with a25 | a25
           · simp [c3, a24, a25] at c11
           · have gf23 := f23 (by simp [c3, a24, a25])
             try simp only [gf23] at f4 f7 f10 f20 c3 a24 a25
             simp (maxSteps := 4000000) [c3, a24, a25, gf23, e2, f4, f7, f10, f20]
  · rw [if_neg c3] at h
    rw [Bool.not_eq_true] at c3
    cases h
    show LK env [] 0 [0, 5, 6, 7] c86_L0 (some (t_additiveref40_corners_L0_st _ _)) = some (t_additiveref40_corners_L0_out _ _)
    simp only [t_additiveref40_corners_L0_st, t_additiveref40_corners_L0_out, e2]
    rw [LK_step]
    simp (maxSteps := 4000000) [c3, e2]
 | lst l1 =>
  try simp only [e2] at h
  by_cases c26 : (ilt s2 (flen k0)) = true
  · rw [if_pos c26] at h
    cases h28 : gOpt (bnot (ieq s2 (isub .i64 (flen k0) 1))) (fget k0 s2) with
    | none => (rw [h28] at h; cases h)
    | some v29 =>
     simp only [h28] at h
     have f27 := fun (q0 : (ieq s2 (isub .i64 (flen k0) 1)) = false) => iaddr_F (e := e_api_Cell) (gOpt_getD (⟨0, 0⟩ : api_Cell) h28 (bnot_mk q0))
     cases h31 : gOpt (bnot (ieq s2 (isub .i64 (flen k0) 1))) (fget k0 (iadd .i64 s2 1)) with
     | none => (rw [h31] at h; cases h)
     | some v32 =>
      simp only [h31] at h
      have f30 := fun (q0 : (ieq s2 (isub .i64 (flen k0) 1)) = false) => iaddr_F (e := e_api_Cell) (gOpt_getD (⟨0, 0⟩ : api_Cell) h31 (bnot_mk q0))
      have f33 := u_additiveref40_turns_ok s1 (v29.getD (⟨0, 0⟩ : api_Cell)) (v32.getD (⟨0, 0⟩ : api_Cell))
      by_cases c34 : (bor (ieq s2 (isub .i64 (flen k0) 1)) (u_additiveref40_turns s1 (v29.getD (⟨0, 0⟩ : api_Cell)) (v32.getD (⟨0, 0⟩ : api_Cell)))) = true
      · rw [if_pos c34] at h
        by_cases h36 : fits 8 ((flen (FS.lst l1)) + 1) = true
        · rw [if_pos h36] at h
          have f35 := fun g0 H y => @app_row1 _ _ e_i64 _ (FS.lst l1) s2 8 h36 (by decide) g0 H 5 0 3 y
          simp only [e_i64] at f35
          cases h38 : fget k0 s2 with
          | none => (rw [h38] at h; cases h)
          | some v39 =>
           simp only [h38] at h
           have f37 := iaddr_F (e := e_api_Cell) h38
           have f40 := fun (q0 : (ieq s2 (isub .i64 (flen k0) 1)) = false) => gOpt_eqD (⟨0, 0⟩ : api_Cell) h28 (bnot_mk q0) h38
           cases h
           show LK env [] 0 [0, 5, 6, 7] c86_L0 (some (t_additiveref40_corners_L0_st _ _)) = LK env [] 0 [0, 5, 6, 7] c86_L0 (some (t_additiveref40_corners_L0_st _ _))
           simp only [t_additiveref40_corners_L0_st, e2]
           rw [LK_step]
           rcases tof (ieq s2 (isub .i64 (flen k0) 1)) with a41 | a41
           · simp (maxSteps := 4000000) [c26, a41, e2, f27, f30, f33, f35, f37]
           · rcases tof (u_additiveref40_turns s1 (v29.getD (⟨0, 0⟩ : api_Cell)) (v32.getD (⟨0, 0⟩ : api_Cell))) with a42 | a42
             · have gf40 := f40 (by simp [c26, a41, a42])
               try simp only [gf40] at f27 f30 f33 f35 f37 c26 a41 a42
               simp (maxSteps := 4000000) [c26, a41, a42, gf40, e2, f27, f30, f33, f35, f37]
             · simp [c26, a41, a42] at c34
        · rw [if_neg h36] at h; cases h
      · rw [if_neg c34] at h
        rw [Bool.not_eq_true] at c34
        cases h44 : fget k0 s2 with
        | none => (rw [h44] at h; cases h)
        | some v45 =>
         simp only [h44] at h
         have f43 := iaddr_F (e := e_api_Cell) h44
         have f46 := fun (q0 : (ieq s2 (isub .i64 (flen k0) 1)) = false) => gOpt_eqD (⟨0, 0⟩ : api_Cell) h28 (bnot_mk q0) h44
         cases h
         show LK env [] 0 [0, 5, 6, 7] c86_L0 (some (t_additiveref40_corners_L0_st _ _)) = LK env [] 0 [0, 5, 6, 7] c86_L0 (some (t_additiveref40_corners_L0_st _ _))
         simp only [t_additiveref40_corners_L0_st, e2]
         rw [LK_step]
         rcases tof (ieq s2 (isub .i64 (flen k0) 1)) with a47 | a47
         · simp [c26, a47] at c34
         · rcases tof (u_additiveref40_turns s1 (v29.getD (⟨0, 0⟩ : api_Cell)) (v32.getD (⟨0, 0⟩ : api_Cell))) with a48 | a48
           · simp [c26, a47, a48] at c34
           · have gf46 := f46 (by simp [c26, a47, a48])
             try simp only [gf46] at f27 f30 f33 f43 c26 a47 a48
             simp (maxSteps := 4000000) [c26, a47, a48, gf46, e2, f27, f30, f33, f43]
  · rw [if_neg c26] at h
    rw [Bool.not_eq_true] at c26
    cases h
    show LK env [] 0 [0, 5, 6, 7] c86_L0 (some (t_additiveref40_corners_L0_st _ _)) = some (t_additiveref40_corners_L0_out _ _)
    simp only [t_additiveref40_corners_L0_st, t_additiveref40_corners_L0_out, e2]
    rw [LK_step]
    simp (maxSteps := 4000000) [c26, e2]) bigN s r h
def t_additiveref40_corners (p0 : (FS api_Cell)) (p1 : api_Cell) : Option (FS Int) := (match loopT (t_additiveref40_corners_L0 p0) bigN ((FS.nil : (FS Int)), p1, 0) with
 | none => none
 | some v21 => some v21)
theorem t_additiveref40_corners_ok {p0 : (FS api_Cell)} {p1 : api_Cell} {r : (FS Int)} (h : t_additiveref40_corners p0 p1 = some r) : FC env 86 [encF e_api_Cell p0, .agg [.int .i64 p1.X, .int .i64 p1.Y]] none = some (encF e_i64 r, fun _ => none) := by
 unfold t_additiveref40_corners at h
 cases h49 : loopT (t_additiveref40_corners_L0 p0) bigN ((FS.nil : (FS Int)), p1, 0) with
 | none => (rw [h49] at h; cases h)
 | some v50 =>
  simp only [h49] at h
  have f51 := t_additiveref40_corners_L0_ok h49
  simp only [t_additiveref40_corners_L0_st, t_additiveref40_corners_L0_out, fset_len] at f51
  cases e53 : v50 with
  | nil =>
   try simp only [e53, flen_nil] at h
   simp only [e53, flen_nil, fcase_nil, fcase_lst] at f51
   cases h
   refine FC_pure (lf := lf86) rfl rfl rfl ?_
   simp only [lf86, lc86]
   simp (maxSteps := 4000000) [f51, e53]
  | lst l52 =>
   try simp only [e53] at h
   simp only [e53, flen_nil, fcase_nil, fcase_lst] at f51
   cases h
   refine FC_pure (lf := lf86) rfl rfl rfl ?_
   simp only [lf86, lc86]
   simp (maxSteps := 4000000) [f51, e53, snap_rowD (e := e_i64) (el := 3) (fz := false)]

/-! additiveref19.Center -/
attribute [simp] c127_0 c127_1 c127_2 c127_3
def t_additiveref19_Center (p0 : api_Cell) (p1 : Int) : Option api_Pt := (if (bor (bor (bor (bor (bor (ilt p0.X (-4096)) (ige p0.X 4096)) (ilt p0.Y (-4096))) (ige p0.Y 4096)) (ilt p1 32)) (igt p1 1024)) = true then some (⟨0, 0⟩ : api_Pt)
 else some (⟨(iadd .i64 (imul .i64 p0.X p1) (iquo .i64 p1 2)), (iadd .i64 (imul .i64 p0.Y p1) (iquo .i64 p1 2))⟩ : api_Pt))
theorem t_additiveref19_Center_ok {p0 : api_Cell} {p1 : Int} {r : api_Pt} (h : t_additiveref19_Center p0 p1 = some r) : FC env 127 [.agg [.int .i64 p0.X, .int .i64 p0.Y], .int .i64 p1] none = some (.agg [.int .i64 r.X, .int .i64 r.Y], fun _ => none) := by
 unfold t_additiveref19_Center at h
 by_cases c1 : (bor (bor (bor (bor (bor (ilt p0.X (-4096)) (ige p0.X 4096)) (ilt p0.Y (-4096))) (ige p0.Y 4096)) (ilt p1 32)) (igt p1 1024)) = true
 · rw [if_pos c1] at h
   cases h
   refine FC_pure (lf := lf127) rfl rfl rfl ?_
   simp only [lf127, lc127]
   rcases tof (ilt p0.X (-4096)) with a2 | a2
   · simp (maxSteps := 4000000) [a2]
   · rcases tof (ige p0.X 4096) with a3 | a3
     · simp (maxSteps := 4000000) [a2, a3]
     · rcases tof (ilt p0.Y (-4096)) with a4 | a4
       · simp (maxSteps := 4000000) [a2, a3, a4]
       · rcases tof (ige p0.Y 4096) with a5 | a5
         · simp (maxSteps := 4000000) [a2, a3, a4, a5]
         · rcases tof (ilt p1 32) with a6 | a6
           · simp (maxSteps := 4000000) [a2, a3, a4, a5, a6]
           · rcases tof (igt p1 1024) with a7 | a7
             · simp (maxSteps := 4000000) [a2, a3, a4, a5, a6, a7]
             · simp [a2, a3, a4, a5, a6, a7] at c1
 · rw [if_neg c1] at h
   rw [Bool.not_eq_true] at c1
   cases h
   refine FC_pure (lf := lf127) rfl rfl rfl ?_
   simp only [lf127, lc127]
   rcases tof (ilt p0.X (-4096)) with a8 | a8
   · simp [a8] at c1
   · rcases tof (ige p0.X 4096) with a9 | a9
     · simp [a8, a9] at c1
     · rcases tof (ilt p0.Y (-4096)) with a10 | a10
       · simp [a8, a9, a10] at c1
       · rcases tof (ige p0.Y 4096) with a11 | a11
         · simp [a8, a9, a10, a11] at c1
         · rcases tof (ilt p1 32) with a12 | a12
           · simp [a8, a9, a10, a11, a12] at c1
           · rcases tof (igt p1 1024) with a13 | a13
             · simp [a8, a9, a10, a11, a12, a13] at c1
             · simp (maxSteps := 4000000) [a8, a9, a10, a11, a12, a13, (show ieq 2 0 = false from rfl), (show ieq 2 0 = false from rfl)]

/-! additiveref40.state).move -/
attribute [simp] c123_0 c123_1 c123_2 c123_3 c123_4 c123_5 c123_6 c123_7 c123_8 c123_9 c123_10 c123_11
theorem c123_L0_u (Γ : Env) (ps : List Nat) (σ : St) : EC Γ ps 0 c123_L0 σ = EC Γ ps 0 (.seq (.seq (.reg false c123_3) (.cond (.t 21) .skip (.seq (.trim []) (.exit 0)))) (.seq (.blk 1 (.seq (.reg true c123_4) (.seq (.reg false c123_5) (.seq (.seq (.reg false c123_6) (.cond (.t 44) (.seq (.reg false c123_7) (.seq (.reg false c123_8) (.reg false c123_9))) .skip)) (.reg true c123_10))))) (.reg false c123_11))) σ := rfl
attribute [simp ↓] c123_L0_u
def t_additiveref40_state_move_L0 (k0 : (FS api_Cell)) (k1 : Int) (k2 : api_Op) (k3 : (FS Int)) (s : (additiveref40_state × Int)) : Option (LR (additiveref40_state × Int) additiveref40_state) := match s with
 | (s0, s1) => (if (ilt s1 (flen k3)) = true then (match fget k3 s1 with
 | none => none
 | some v7 => (match fget k0 v7 with
 | none => none
 | some v10 => (match t_additiveref19_Center v10 s0.S.Pitch with
 | none => none
 | some v13 => (if (ieq k2.Kind 3) = true then (match t_additiveref40_state_amount (⟨s0.S, s0.At, s0.Cells, s0.Feed, s0.Out, s0.Bad⟩ : additiveref40_state) (iadd .i64 (iadd .i64 k1 v7) 1) with
 | none => none
 | some v18 => (match t_additiveref40_state_add (⟨s0.S, s0.At, s0.Cells, s0.Feed, s0.Out, s0.Bad⟩ : additiveref40_state) (⟨1, (iadd .i64 3 8), v13.X, v13.Y, 0, v18, 0, 0⟩ : api_Cmd) (imul .i64 k2.Speed s0.S.Pitch) with
 | none => none
 | some v20 => some (.nx ((⟨v20.S, v20.At, v20.Cells, v20.Feed, v20.Out, v20.Bad⟩ : additiveref40_state), (iadd .i64 s1 1)))))
 else (match t_additiveref40_state_add (⟨s0.S, s0.At, s0.Cells, s0.Feed, s0.Out, s0.Bad⟩ : additiveref40_state) (⟨0, 3, v13.X, v13.Y, 0, 0, 0, 0⟩ : api_Cmd) (imul .i64 k2.Speed s0.S.Pitch) with
 | none => none
 | some v23 => some (.nx ((⟨v23.S, v23.At, v23.Cells, v23.Feed, v23.Out, v23.Bad⟩ : additiveref40_state), (iadd .i64 s1 1))))))))
 else some (.dn (⟨s0.S, s0.At, s0.Cells, s0.Feed, s0.Out, s0.Bad⟩ : additiveref40_state)))
def t_additiveref40_state_move_L0_st (k0 : (FS api_Cell)) (k1 : Int) (k2 : api_Op) (k3 : (FS Int)) (s : (additiveref40_state × Int)) : St := match s with
 | (s0, s1) => (fcase s0.Out (⟨fr [(0, .ptr 0 0 0), (2, encF e_api_Cell k0), (3, .int .i64 k1), (5, .ptr 5 0 0), (8, encF e_i64 k3), (9, .int .i64 s1)], hl [(0, .box 0 [.int .i64 s0.S.Pitch, .int .i64 s0.S.Height, .int .i64 s0.S.Walls, .int .i64 s0.S.Top, .int .i64 s0.S.Bottom, .int .i64 s0.S.Pattern, .int .i64 s0.S.Spacing, .bool s0.S.Support, .int .i64 s0.S.Reach, .int .i64 s0.S.Gap, .int .i64 s0.S.Brim, .int .i64 s0.S.Skirt, .int .i64 s0.S.Drop, .int .i64 s0.S.Feed, .int .i64 s0.S.Travel, .int .i64 s0.S.Retract, .int .i64 s0.S.MinTime, .int .i64 s0.S.MinFeed, .int .i64 s0.S.Nozzle, .int .i64 s0.S.Bed, .int .i64 s0.At.X, .int .i64 s0.At.Y, .int .i64 s0.Cells, .int .i64 s0.Feed, .nils, .bool s0.Bad]), (5, .box 0 [.int .i64 k2.Kind, .int .i64 k2.Role, .int .i64 k2.Layer, .int .i64 k2.Z, .int .i64 k2.Speed, encF e_api_Cell k2.Cells])]⟩)
  (fun l0 => ⟨fr [(0, .ptr 0 0 0), (2, encF e_api_Cell k0), (3, .int .i64 k1), (5, .ptr 5 0 0), (8, encF e_i64 k3), (9, .int .i64 s1)], hl [(0, .box 0 [.int .i64 s0.S.Pitch, .int .i64 s0.S.Height, .int .i64 s0.S.Walls, .int .i64 s0.S.Top, .int .i64 s0.S.Bottom, .int .i64 s0.S.Pattern, .int .i64 s0.S.Spacing, .bool s0.S.Support, .int .i64 s0.S.Reach, .int .i64 s0.S.Gap, .int .i64 s0.S.Brim, .int .i64 s0.S.Skirt, .int .i64 s0.S.Drop, .int .i64 s0.S.Feed, .int .i64 s0.S.Travel, .int .i64 s0.S.Retract, .int .i64 s0.S.MinTime, .int .i64 s0.S.MinFeed, .int .i64 s0.S.Nozzle, .int .i64 s0.S.Bed, .int .i64 s0.At.X, .int .i64 s0.At.Y, .int .i64 s0.Cells, .int .i64 s0.Feed, .arr 1000024 0 0 l0.l.length, .bool s0.Bad]), (1000024, .arr 0 8 55 (cellsE e_api_Cmd l0.l) false), (5, .box 0 [.int .i64 k2.Kind, .int .i64 k2.Role, .int .i64 k2.Layer, .int .i64 k2.Z, .int .i64 k2.Speed, encF e_api_Cell k2.Cells])]⟩))
def t_additiveref40_state_move_L0_out (k0 : (FS api_Cell)) (k1 : Int) (k2 : api_Op) (k3 : (FS Int)) (x : additiveref40_state) : LE × St := (fcase x.Out (.exit 0, ⟨fr [], hl [(0, .box 0 [.int .i64 x.S.Pitch, .int .i64 x.S.Height, .int .i64 x.S.Walls, .int .i64 x.S.Top, .int .i64 x.S.Bottom, .int .i64 x.S.Pattern, .int .i64 x.S.Spacing, .bool x.S.Support, .int .i64 x.S.Reach, .int .i64 x.S.Gap, .int .i64 x.S.Brim, .int .i64 x.S.Skirt, .int .i64 x.S.Drop, .int .i64 x.S.Feed, .int .i64 x.S.Travel, .int .i64 x.S.Retract, .int .i64 x.S.MinTime, .int .i64 x.S.MinFeed, .int .i64 x.S.Nozzle, .int .i64 x.S.Bed, .int .i64 x.At.X, .int .i64 x.At.Y, .int .i64 x.Cells, .int .i64 x.Feed, .nils, .bool x.Bad])]⟩)
  (fun l0 => (.exit 0, ⟨fr [], hl [(0, .box 0 [.int .i64 x.S.Pitch, .int .i64 x.S.Height, .int .i64 x.S.Walls, .int .i64 x.S.Top, .int .i64 x.S.Bottom, .int .i64 x.S.Pattern, .int .i64 x.S.Spacing, .bool x.S.Support, .int .i64 x.S.Reach, .int .i64 x.S.Gap, .int .i64 x.S.Brim, .int .i64 x.S.Skirt, .int .i64 x.S.Drop, .int .i64 x.S.Feed, .int .i64 x.S.Travel, .int .i64 x.S.Retract, .int .i64 x.S.MinTime, .int .i64 x.S.MinFeed, .int .i64 x.S.Nozzle, .int .i64 x.S.Bed, .int .i64 x.At.X, .int .i64 x.At.Y, .int .i64 x.Cells, .int .i64 x.Feed, .arr 1000024 0 0 l0.l.length, .bool x.Bad]), (1000024, .arr 0 8 55 (cellsE e_api_Cmd l0.l) false)]⟩)))
theorem t_additiveref40_state_move_L0_ok {k0 : (FS api_Cell)} {k1 : Int} {k2 : api_Op} {k3 : (FS Int)} {s : (additiveref40_state × Int)} {r : additiveref40_state} (h : loopT (t_additiveref40_state_move_L0 k0 k1 k2 k3) bigN s = some r) : LK env [0] 0 [0, 2, 3, 5, 8, 9] c123_L0 (some (t_additiveref40_state_move_L0_st k0 k1 k2 k3 s)) = some (t_additiveref40_state_move_L0_out k0 k1 k2 k3 r) ∧ (Lst s.1.Out → Lst r.Out) := loop_walkK (P := fun s => Lst s.1.Out) (Q := fun r => Lst r.Out) (st := t_additiveref40_state_move_L0_st k0 k1 k2 k3) (out := t_additiveref40_state_move_L0_out k0 k1 k2 k3) (by
 clear h s r
 rintro ⟨s0, s1⟩ x h
 simp only [t_additiveref40_state_move_L0] at h
 cases e5 : s0.Out with
 | nil =>
  try simp only [e5, flen_nil] at h
  by_cases c6 : (ilt s1 (flen k3)) = true
  · rw [if_pos c6] at h
    cases h8 : fget k3 s1 with
    | none => (rw [h8] at h; cases h)
    | some v9 =>
     simp only [h8] at h
     have f7 := iaddr_F (e := e_i64) h8
     cases h11 : fget k0 v9 with
     | none => (rw [h11] at h; cases h)
     | some v12 =>
      simp only [h11] at h
      have f10 := iaddr_F (e := e_api_Cell) h11
      cases h14 : t_additiveref19_Center v12 s0.S.Pitch with
      | none => (rw [h14] at h; cases h)
      | some v15 =>
       simp only [h14] at h
       have f13 := t_additiveref19_Center_ok h14
       by_cases c16 : (ieq k2.Kind 3) = true
       · rw [if_pos c16] at h
         cases h19 : t_additiveref40_state_amount (⟨s0.S, s0.At, s0.Cells, s0.Feed, (FS.nil : (FS api_Cmd)), s0.Bad⟩ : additiveref40_state) (iadd .i64 (iadd .i64 k1 v9) 1) with
         | none => (rw [h19] at h; cases h)
         | some v20 =>
          simp only [h19] at h
          have f18 := t_additiveref40_state_amount_ok h19
          try simp only [encF_nil] at f18
          cases h21 : t_additiveref40_state_add (⟨s0.S, s0.At, s0.Cells, s0.Feed, (FS.nil : (FS api_Cmd)), s0.Bad⟩ : additiveref40_state) (⟨1, (iadd .i64 3 8), v15.X, v15.Y, 0, v20, 0, 0⟩ : api_Cmd) (imul .i64 k2.Speed s0.S.Pitch) with
          | none => (rw [h21] at h; cases h)
          | some v22 =>
           simp only [h21] at h
           obtain ⟨f23, ⟨l25, e24⟩⟩ := t_additiveref40_state_add_okN rfl h21
           simp only [e24] at f23
           try simp only [e24] at h
           try simp only [fset_len, encF_nil, fcase_nil, fcase_lst, fcase_fsnoc, fcase_fapp, fcase_fset, fcase_frep, fcase_flit, fcase_flst] at f23
           try simp only [fcase_nil, fcase_lst, fcase_fsnoc, fcase_fapp, fcase_fset, fcase_frep, fcase_flit, fcase_flst] at f23
           cases h
           refine ⟨?_, fun k => ?_⟩
           · show LK env [0] 0 [0, 2, 3, 5, 8, 9] c123_L0 (some (t_additiveref40_state_move_L0_st _ _ _ _ _)) = LK env [0] 0 [0, 2, 3, 5, 8, 9] c123_L0 (some (t_additiveref40_state_move_L0_st _ _ _ _ _))
             simp only [t_additiveref40_state_move_L0_st, e5]
             rw [LK_step]
             try simp only [c6, c16] at f18 f23
             simp (maxSteps := 4000000) [c6, c16, e5, f7, f10, f13, f18, e24, f23]
           · obtain ⟨_, k⟩ := k
             first | exact (nl_ne k).elim | exact (nl_ne (e5.symm.trans k)).elim
       · rw [if_neg c16] at h
         rw [Bool.not_eq_true] at c16
         cases h26 : t_additiveref40_state_add (⟨s0.S, s0.At, s0.Cells, s0.Feed, (FS.nil : (FS api_Cmd)), s0.Bad⟩ : additiveref40_state) (⟨0, 3, v15.X, v15.Y, 0, 0, 0, 0⟩ : api_Cmd) (imul .i64 k2.Speed s0.S.Pitch) with
         | none => (rw [h26] at h; cases h)
         | some v27 =>
          simp only [h26] at h
          obtain ⟨f28, ⟨l30, e29⟩⟩ := t_additiveref40_state_add_okN rfl h26
          simp only [e29] at f28
          try simp only [e29] at h
          try simp only [fset_len, encF_nil, fcase_nil, fcase_lst, fcase_fsnoc, fcase_fapp, fcase_fset, fcase_frep, fcase_flit, fcase_flst] at f28
          try simp only [fcase_nil, fcase_lst, fcase_fsnoc, fcase_fapp, fcase_fset, fcase_frep, fcase_flit, fcase_flst] at f28
          cases h
          refine ⟨?_, fun k => ?_⟩
          · show LK env [0] 0 [0, 2, 3, 5, 8, 9] c123_L0 (some (t_additiveref40_state_move_L0_st _ _ _ _ _)) = LK env [0] 0 [0, 2, 3, 5, 8, 9] c123_L0 (some (t_additiveref40_state_move_L0_st _ _ _ _ _))
            simp only [t_additiveref40_state_move_L0_st, e5]
            rw [LK_step]
            try simp only [c6, c16] at f28
            simp (maxSteps := 4000000) [c6, c16, e5, f7, f10, f13, e29, f28]
          · obtain ⟨_, k⟩ := k
            first | exact (nl_ne k).elim | exact (nl_ne (e5.symm.trans k)).elim
  · rw [if_neg c6] at h
    rw [Bool.not_eq_true] at c6
    cases h
    refine ⟨?_, fun k => ?_⟩
    · show LK env [0] 0 [0, 2, 3, 5, 8, 9] c123_L0 (some (t_additiveref40_state_move_L0_st _ _ _ _ _)) = some (t_additiveref40_state_move_L0_out _ _ _ _ _)
      simp only [t_additiveref40_state_move_L0_st, t_additiveref40_state_move_L0_out, e5]
      rw [LK_step]
      simp (maxSteps := 4000000) [c6, e5]
    · obtain ⟨_, k⟩ := k
      first | exact (nl_ne k).elim | exact (nl_ne (e5.symm.trans k)).elim
 | lst l4 =>
  try simp only [e5] at h
  by_cases c31 : (ilt s1 (flen k3)) = true
  · rw [if_pos c31] at h
    cases h33 : fget k3 s1 with
    | none => (rw [h33] at h; cases h)
    | some v34 =>
     simp only [h33] at h
     have f32 := iaddr_F (e := e_i64) h33
     cases h36 : fget k0 v34 with
     | none => (rw [h36] at h; cases h)
     | some v37 =>
      simp only [h36] at h
      have f35 := iaddr_F (e := e_api_Cell) h36
      cases h39 : t_additiveref19_Center v37 s0.S.Pitch with
      | none => (rw [h39] at h; cases h)
      | some v40 =>
       simp only [h39] at h
       have f38 := t_additiveref19_Center_ok h39
       by_cases c41 : (ieq k2.Kind 3) = true
       · rw [if_pos c41] at h
         cases h44 : t_additiveref40_state_amount (⟨s0.S, s0.At, s0.Cells, s0.Feed, (FS.lst l4), s0.Bad⟩ : additiveref40_state) (iadd .i64 (iadd .i64 k1 v34) 1) with
         | none => (rw [h44] at h; cases h)
         | some v45 =>
          simp only [h44] at h
          have f43 := t_additiveref40_state_amount_ok h44
          cases h46 : t_additiveref40_state_add (⟨s0.S, s0.At, s0.Cells, s0.Feed, (FS.lst l4), s0.Bad⟩ : additiveref40_state) (⟨1, (iadd .i64 3 8), v40.X, v40.Y, 0, v45, 0, 0⟩ : api_Cmd) (imul .i64 k2.Speed s0.S.Pitch) with
          | none => (rw [h46] at h; cases h)
          | some v47 =>
           simp only [h46] at h
           obtain ⟨f48, ⟨l50, e49⟩⟩ := t_additiveref40_state_add_okO rfl h46
           simp only [e49] at f48
           try simp only [e49] at h
           try simp only [fset_len, encF_nil, fcase_nil, fcase_lst, fcase_fsnoc, fcase_fapp, fcase_fset, fcase_frep, fcase_flit, fcase_flst] at f48
           try simp only [fcase_nil, fcase_lst, fcase_fsnoc, fcase_fapp, fcase_fset, fcase_frep, fcase_flit, fcase_flst] at f48
           cases h
           refine ⟨?_, fun k => ?_⟩
           · show LK env [0] 0 [0, 2, 3, 5, 8, 9] c123_L0 (some (t_additiveref40_state_move_L0_st _ _ _ _ _)) = LK env [0] 0 [0, 2, 3, 5, 8, 9] c123_L0 (some (t_additiveref40_state_move_L0_st _ _ _ _ _))
             simp only [t_additiveref40_state_move_L0_st, e5]
             rw [LK_step]
             try simp only [c31, c41] at f43 f48
             simp (maxSteps := 4000000) [c31, c41, e5, f32, f35, f38, snap_rowD (e := e_api_Cmd) (el := 55) (fz := false), f43, e49, f48]
           · first | exact ⟨_, rfl⟩ | exact ⟨_, by assumption⟩
       · rw [if_neg c41] at h
         rw [Bool.not_eq_true] at c41
         cases h51 : t_additiveref40_state_add (⟨s0.S, s0.At, s0.Cells, s0.Feed, (FS.lst l4), s0.Bad⟩ : additiveref40_state) (⟨0, 3, v40.X, v40.Y, 0, 0, 0, 0⟩ : api_Cmd) (imul .i64 k2.Speed s0.S.Pitch) with
         | none => (rw [h51] at h; cases h)
         | some v52 =>
          simp only [h51] at h
          obtain ⟨f53, ⟨l55, e54⟩⟩ := t_additiveref40_state_add_okO rfl h51
          simp only [e54] at f53
          try simp only [e54] at h
          try simp only [fset_len, encF_nil, fcase_nil, fcase_lst, fcase_fsnoc, fcase_fapp, fcase_fset, fcase_frep, fcase_flit, fcase_flst] at f53
          try simp only [fcase_nil, fcase_lst, fcase_fsnoc, fcase_fapp, fcase_fset, fcase_frep, fcase_flit, fcase_flst] at f53
          cases h
          refine ⟨?_, fun k => ?_⟩
          · show LK env [0] 0 [0, 2, 3, 5, 8, 9] c123_L0 (some (t_additiveref40_state_move_L0_st _ _ _ _ _)) = LK env [0] 0 [0, 2, 3, 5, 8, 9] c123_L0 (some (t_additiveref40_state_move_L0_st _ _ _ _ _))
            simp only [t_additiveref40_state_move_L0_st, e5]
            rw [LK_step]
            try simp only [c31, c41] at f53
            simp (maxSteps := 4000000) [c31, c41, e5, f32, f35, f38, e54, f53]
          · first | exact ⟨_, rfl⟩ | exact ⟨_, by assumption⟩
  · rw [if_neg c31] at h
    rw [Bool.not_eq_true] at c31
    cases h
    refine ⟨?_, fun k => ?_⟩
    · show LK env [0] 0 [0, 2, 3, 5, 8, 9] c123_L0 (some (t_additiveref40_state_move_L0_st _ _ _ _ _)) = some (t_additiveref40_state_move_L0_out _ _ _ _ _)
      simp only [t_additiveref40_state_move_L0_st, t_additiveref40_state_move_L0_out, e5]
      rw [LK_step]
      simp (maxSteps := 4000000) [c31, e5]
    · first | exact ⟨_, rfl⟩ | exact ⟨_, by assumption⟩) bigN s r h
def t_additiveref40_state_move (p0 : additiveref40_state) (p1 : api_Op) (p2 : (FS api_Cell)) (p3 : Int) : Option additiveref40_state := (match t_additiveref40_corners p2 p0.At with
 | none => none
 | some v3 => (match loopT (t_additiveref40_state_move_L0 p2 p3 p1 v3) bigN ((⟨p0.S, p0.At, p0.Cells, p0.Feed, p0.Out, p0.Bad⟩ : additiveref40_state), 0) with
 | none => none
 | some v26 => some (⟨v26.S, v26.At, v26.Cells, v26.Feed, v26.Out, v26.Bad⟩ : additiveref40_state)))
theorem t_additiveref40_state_move_okO {p0 : additiveref40_state} {p1 : api_Op} {p2 : (FS api_Cell)} {p3 : Int} {le04 : List api_Cmd} (e04 : p0.Out = FS.lst le04) {r : additiveref40_state} (h : t_additiveref40_state_move p0 p1 p2 p3 = some r) : FC env 123 [.ptr 0 0 0, .agg [.int .i64 p1.Kind, .int .i64 p1.Role, .int .i64 p1.Layer, .int .i64 p1.Z, .int .i64 p1.Speed, encF e_api_Cell p1.Cells], encF e_api_Cell p2, .int .i64 p3] (some (hl [(0, .box 0 [.int .i64 p0.S.Pitch, .int .i64 p0.S.Height, .int .i64 p0.S.Walls, .int .i64 p0.S.Top, .int .i64 p0.S.Bottom, .int .i64 p0.S.Pattern, .int .i64 p0.S.Spacing, .bool p0.S.Support, .int .i64 p0.S.Reach, .int .i64 p0.S.Gap, .int .i64 p0.S.Brim, .int .i64 p0.S.Skirt, .int .i64 p0.S.Drop, .int .i64 p0.S.Feed, .int .i64 p0.S.Travel, .int .i64 p0.S.Retract, .int .i64 p0.S.MinTime, .int .i64 p0.S.MinFeed, .int .i64 p0.S.Nozzle, .int .i64 p0.S.Bed, .int .i64 p0.At.X, .int .i64 p0.At.Y, .int .i64 p0.Cells, .int .i64 p0.Feed, .arr 1000024 0 0 p0.Out.l.length, .bool p0.Bad]), (1000024, .arr 0 8 55 (cellsE e_api_Cmd p0.Out.l) false)], 0)) = some (.tup [], hl [(0, .box 0 [.int .i64 r.S.Pitch, .int .i64 r.S.Height, .int .i64 r.S.Walls, .int .i64 r.S.Top, .int .i64 r.S.Bottom, .int .i64 r.S.Pattern, .int .i64 r.S.Spacing, .bool r.S.Support, .int .i64 r.S.Reach, .int .i64 r.S.Gap, .int .i64 r.S.Brim, .int .i64 r.S.Skirt, .int .i64 r.S.Drop, .int .i64 r.S.Feed, .int .i64 r.S.Travel, .int .i64 r.S.Retract, .int .i64 r.S.MinTime, .int .i64 r.S.MinFeed, .int .i64 r.S.Nozzle, .int .i64 r.S.Bed, .int .i64 r.At.X, .int .i64 r.At.Y, .int .i64 r.Cells, .int .i64 r.Feed, .arr 1000024 0 0 r.Out.l.length, .bool r.Bad]), (1000024, .arr 0 8 55 (cellsE e_api_Cmd r.Out.l) false)]) ∧ ∃ l, r.Out = FS.lst l := by
 unfold t_additiveref40_state_move at h
 simp only [e04, flen_nil] at h
 cases h2 : t_additiveref40_corners p2 p0.At with
 | none => (rw [h2] at h; cases h)
 | some v3 =>
  simp only [h2] at h
  have f1 := t_additiveref40_corners_ok h2
  cases h56 : loopT (t_additiveref40_state_move_L0 p2 p3 p1 v3) bigN ((⟨p0.S, p0.At, p0.Cells, p0.Feed, (FS.lst le04), p0.Bad⟩ : additiveref40_state), 0) with
  | none => (rw [h56] at h; cases h)
  | some v57 =>
   simp only [h56] at h
   obtain ⟨f58, f58k⟩ := t_additiveref40_state_move_L0_ok h56
   simp only [t_additiveref40_state_move_L0_st, t_additiveref40_state_move_L0_out, fset_len] at f58
   cases e60 : v57.Out with
   | nil =>
    obtain ⟨_, k⟩ := f58k ⟨_, rfl⟩
    exact (nl_ne (e60.symm.trans k)).elim
   | lst l59 =>
    try simp only [e60] at h
    simp only [e60, flen_nil, fcase_nil, fcase_lst] at f58
    cases h
    refine ⟨?_, by first | exact ⟨_, rfl⟩ | exact ⟨_, by assumption⟩⟩
    refine FC_byref (lf := lf123) rfl rfl rfl ?_
    simp only [lf123, lc123]
    simp (maxSteps := 4000000) [e04, f1, f58, e60]
theorem t_additiveref40_state_move_okN {p0 : additiveref40_state} {p1 : api_Op} {p2 : (FS api_Cell)} {p3 : Int} (e04 : p0.Out = FS.nil) {r : additiveref40_state} (h : t_additiveref40_state_move p0 p1 p2 p3 = some r) : FC env 123 [.ptr 0 0 0, .agg [.int .i64 p1.Kind, .int .i64 p1.Role, .int .i64 p1.Layer, .int .i64 p1.Z, .int .i64 p1.Speed, encF e_api_Cell p1.Cells], encF e_api_Cell p2, .int .i64 p3] (some (hl [(0, .box 0 [.int .i64 p0.S.Pitch, .int .i64 p0.S.Height, .int .i64 p0.S.Walls, .int .i64 p0.S.Top, .int .i64 p0.S.Bottom, .int .i64 p0.S.Pattern, .int .i64 p0.S.Spacing, .bool p0.S.Support, .int .i64 p0.S.Reach, .int .i64 p0.S.Gap, .int .i64 p0.S.Brim, .int .i64 p0.S.Skirt, .int .i64 p0.S.Drop, .int .i64 p0.S.Feed, .int .i64 p0.S.Travel, .int .i64 p0.S.Retract, .int .i64 p0.S.MinTime, .int .i64 p0.S.MinFeed, .int .i64 p0.S.Nozzle, .int .i64 p0.S.Bed, .int .i64 p0.At.X, .int .i64 p0.At.Y, .int .i64 p0.Cells, .int .i64 p0.Feed, .nils, .bool p0.Bad])], 0)) = some (.tup [], (fcase r.Out (hl [(0, .box 0 [.int .i64 r.S.Pitch, .int .i64 r.S.Height, .int .i64 r.S.Walls, .int .i64 r.S.Top, .int .i64 r.S.Bottom, .int .i64 r.S.Pattern, .int .i64 r.S.Spacing, .bool r.S.Support, .int .i64 r.S.Reach, .int .i64 r.S.Gap, .int .i64 r.S.Brim, .int .i64 r.S.Skirt, .int .i64 r.S.Drop, .int .i64 r.S.Feed, .int .i64 r.S.Travel, .int .i64 r.S.Retract, .int .i64 r.S.MinTime, .int .i64 r.S.MinFeed, .int .i64 r.S.Nozzle, .int .i64 r.S.Bed, .int .i64 r.At.X, .int .i64 r.At.Y, .int .i64 r.Cells, .int .i64 r.Feed, .nils, .bool r.Bad])])
  (fun l0 => hl [(0, .box 0 [.int .i64 r.S.Pitch, .int .i64 r.S.Height, .int .i64 r.S.Walls, .int .i64 r.S.Top, .int .i64 r.S.Bottom, .int .i64 r.S.Pattern, .int .i64 r.S.Spacing, .bool r.S.Support, .int .i64 r.S.Reach, .int .i64 r.S.Gap, .int .i64 r.S.Brim, .int .i64 r.S.Skirt, .int .i64 r.S.Drop, .int .i64 r.S.Feed, .int .i64 r.S.Travel, .int .i64 r.S.Retract, .int .i64 r.S.MinTime, .int .i64 r.S.MinFeed, .int .i64 r.S.Nozzle, .int .i64 r.S.Bed, .int .i64 r.At.X, .int .i64 r.At.Y, .int .i64 r.Cells, .int .i64 r.Feed, .arr 1000024 0 0 l0.l.length, .bool r.Bad]), (1000024, .arr 0 8 55 (cellsE e_api_Cmd l0.l) false)]))) := by
 unfold t_additiveref40_state_move at h
 simp only [e04, flen_nil] at h
 cases h2 : t_additiveref40_corners p2 p0.At with
 | none => (rw [h2] at h; cases h)
 | some v3 =>
  simp only [h2] at h
  have f1 := t_additiveref40_corners_ok h2
  cases h4 : loopT (t_additiveref40_state_move_L0 p2 p3 p1 v3) bigN ((⟨p0.S, p0.At, p0.Cells, p0.Feed, (FS.nil : (FS api_Cmd)), p0.Bad⟩ : additiveref40_state), 0) with
  | none => (rw [h4] at h; cases h)
  | some v5 =>
   simp only [h4] at h
   obtain ⟨f6, f6k⟩ := t_additiveref40_state_move_L0_ok h4
   simp only [t_additiveref40_state_move_L0_st, t_additiveref40_state_move_L0_out, fset_len] at f6
   cases e8 : v5.Out with
   | nil =>
    try simp only [e8, flen_nil] at h
    simp only [e8, flen_nil, fcase_nil, fcase_lst] at f6
    cases h
    refine FC_byref (lf := lf123) rfl rfl rfl ?_
    simp only [lf123, lc123]
    simp (maxSteps := 4000000) [e04, f1, f6, e8]
   | lst l7 =>
    try simp only [e8] at h
    simp only [e8, flen_nil, fcase_nil, fcase_lst] at f6
    cases h
    refine FC_byref (lf := lf123) rfl rfl rfl ?_
    simp only [lf123, lc123]
    simp (maxSteps := 4000000) [e04, f1, f6, e8]

/-! additiveref40.state).path -/
attribute [simp] c107_0 c107_1 c107_2 c107_3 c107_4 c107_5 c107_6 c107_7 c107_8 c107_9 c107_10
def t_additiveref40_state_path (p0 : additiveref40_state) (p1 : api_Op) : Option additiveref40_state := (if (band (igt (flen p1.Cells) 0) (bor (ilt p1.Speed 1) (igt p1.Speed 1048576))) = true then (if (bor (ieq (flen p1.Cells) 0) true) = true then some (⟨p0.S, p0.At, p0.Cells, p0.Feed, p0.Out, true⟩ : additiveref40_state)
 else (match gOpt (ieq p1.Kind 3) (fget p1.Cells 0) with
 | none => none
 | some v5 => (if (band (ieq p1.Kind 3) (band (ieq (((v5.getD (⟨0, 0⟩ : api_Cell))).X) p0.At.X) (band (ieq (((v5.getD (⟨0, 0⟩ : api_Cell))).Y) p0.At.Y) true))) = true then (match t_additiveref40_state_amount (⟨p0.S, p0.At, p0.Cells, p0.Feed, p0.Out, true⟩ : additiveref40_state) 1 with
 | none => none
 | some v9 => (match t_additiveref40_state_add (⟨p0.S, p0.At, p0.Cells, p0.Feed, p0.Out, true⟩ : additiveref40_state) (⟨1, 8, 0, 0, 0, v9, 0, 0⟩ : api_Cmd) (imul .i64 p1.Speed p0.S.Pitch) with
 | none => none
 | some v11 => (match fsl p1.Cells 1 (flen p1.Cells) with
 | none => none
 | some v15 => (match t_additiveref40_state_move (⟨v11.S, v11.At, v11.Cells, v11.Feed, v11.Out, v11.Bad⟩ : additiveref40_state) p1 v15 1 with
 | none => none
 | some v17 => (if (ieq p1.Kind 3) = true then (match fget p1.Cells (isub .i64 (flen p1.Cells) 1) with
 | none => none
 | some v22 => some (⟨v17.S, v22, (iadd .i64 v17.Cells (flen p1.Cells)), v17.Feed, v17.Out, v17.Bad⟩ : additiveref40_state))
 else (match fget p1.Cells (isub .i64 (flen p1.Cells) 1) with
 | none => none
 | some v25 => some (⟨v17.S, v25, v17.Cells, v17.Feed, v17.Out, v17.Bad⟩ : additiveref40_state)))))))
 else (match t_additiveref40_state_move (⟨p0.S, p0.At, p0.Cells, p0.Feed, p0.Out, true⟩ : additiveref40_state) p1 p1.Cells 0 with
 | none => none
 | some v27 => (if (ieq p1.Kind 3) = true then (match fget p1.Cells (isub .i64 (flen p1.Cells) 1) with
 | none => none
 | some v32 => some (⟨v27.S, v32, (iadd .i64 v27.Cells (flen p1.Cells)), v27.Feed, v27.Out, v27.Bad⟩ : additiveref40_state))
 else (match fget p1.Cells (isub .i64 (flen p1.Cells) 1) with
 | none => none
 | some v35 => some (⟨v27.S, v35, v27.Cells, v27.Feed, v27.Out, v27.Bad⟩ : additiveref40_state)))))))
 else (if (bor (ieq (flen p1.Cells) 0) p0.Bad) = true then some (⟨p0.S, p0.At, p0.Cells, p0.Feed, p0.Out, p0.Bad⟩ : additiveref40_state)
 else (match gOpt (ieq p1.Kind 3) (fget p1.Cells 0) with
 | none => none
 | some v39 => (if (band (ieq p1.Kind 3) (band (ieq (((v39.getD (⟨0, 0⟩ : api_Cell))).X) p0.At.X) (band (ieq (((v39.getD (⟨0, 0⟩ : api_Cell))).Y) p0.At.Y) true))) = true then (match t_additiveref40_state_amount (⟨p0.S, p0.At, p0.Cells, p0.Feed, p0.Out, p0.Bad⟩ : additiveref40_state) 1 with
 | none => none
 | some v43 => (match t_additiveref40_state_add (⟨p0.S, p0.At, p0.Cells, p0.Feed, p0.Out, p0.Bad⟩ : additiveref40_state) (⟨1, 8, 0, 0, 0, v43, 0, 0⟩ : api_Cmd) (imul .i64 p1.Speed p0.S.Pitch) with
 | none => none
 | some v45 => (match fsl p1.Cells 1 (flen p1.Cells) with
 | none => none
 | some v49 => (match t_additiveref40_state_move (⟨v45.S, v45.At, v45.Cells, v45.Feed, v45.Out, v45.Bad⟩ : additiveref40_state) p1 v49 1 with
 | none => none
 | some v51 => (if (ieq p1.Kind 3) = true then (match fget p1.Cells (isub .i64 (flen p1.Cells) 1) with
 | none => none
 | some v56 => some (⟨v51.S, v56, (iadd .i64 v51.Cells (flen p1.Cells)), v51.Feed, v51.Out, v51.Bad⟩ : additiveref40_state))
 else (match fget p1.Cells (isub .i64 (flen p1.Cells) 1) with
 | none => none
 | some v59 => some (⟨v51.S, v59, v51.Cells, v51.Feed, v51.Out, v51.Bad⟩ : additiveref40_state)))))))
 else (match t_additiveref40_state_move (⟨p0.S, p0.At, p0.Cells, p0.Feed, p0.Out, p0.Bad⟩ : additiveref40_state) p1 p1.Cells 0 with
 | none => none
 | some v61 => (if (ieq p1.Kind 3) = true then (match fget p1.Cells (isub .i64 (flen p1.Cells) 1) with
 | none => none
 | some v66 => some (⟨v61.S, v66, (iadd .i64 v61.Cells (flen p1.Cells)), v61.Feed, v61.Out, v61.Bad⟩ : additiveref40_state))
 else (match fget p1.Cells (isub .i64 (flen p1.Cells) 1) with
 | none => none
 | some v69 => some (⟨v61.S, v69, v61.Cells, v61.Feed, v61.Out, v61.Bad⟩ : additiveref40_state))))))))
theorem t_additiveref40_state_path_okN {p0 : additiveref40_state} {p1 : api_Op} (e04 : p0.Out = FS.nil) {r : additiveref40_state} (h : t_additiveref40_state_path p0 p1 = some r) : FC env 107 [.ptr 0 0 0, .agg [.int .i64 p1.Kind, .int .i64 p1.Role, .int .i64 p1.Layer, .int .i64 p1.Z, .int .i64 p1.Speed, encF e_api_Cell p1.Cells]] (some (hl [(0, .box 0 [.int .i64 p0.S.Pitch, .int .i64 p0.S.Height, .int .i64 p0.S.Walls, .int .i64 p0.S.Top, .int .i64 p0.S.Bottom, .int .i64 p0.S.Pattern, .int .i64 p0.S.Spacing, .bool p0.S.Support, .int .i64 p0.S.Reach, .int .i64 p0.S.Gap, .int .i64 p0.S.Brim, .int .i64 p0.S.Skirt, .int .i64 p0.S.Drop, .int .i64 p0.S.Feed, .int .i64 p0.S.Travel, .int .i64 p0.S.Retract, .int .i64 p0.S.MinTime, .int .i64 p0.S.MinFeed, .int .i64 p0.S.Nozzle, .int .i64 p0.S.Bed, .int .i64 p0.At.X, .int .i64 p0.At.Y, .int .i64 p0.Cells, .int .i64 p0.Feed, .nils, .bool p0.Bad])], 0)) = some (.tup [], (fcase r.Out (hl [(0, .box 0 [.int .i64 r.S.Pitch, .int .i64 r.S.Height, .int .i64 r.S.Walls, .int .i64 r.S.Top, .int .i64 r.S.Bottom, .int .i64 r.S.Pattern, .int .i64 r.S.Spacing, .bool r.S.Support, .int .i64 r.S.Reach, .int .i64 r.S.Gap, .int .i64 r.S.Brim, .int .i64 r.S.Skirt, .int .i64 r.S.Drop, .int .i64 r.S.Feed, .int .i64 r.S.Travel, .int .i64 r.S.Retract, .int .i64 r.S.MinTime, .int .i64 r.S.MinFeed, .int .i64 r.S.Nozzle, .int .i64 r.S.Bed, .int .i64 r.At.X, .int .i64 r.At.Y, .int .i64 r.Cells, .int .i64 r.Feed, .nils, .bool r.Bad])])
  (fun l0 => hl [(0, .box 0 [.int .i64 r.S.Pitch, .int .i64 r.S.Height, .int .i64 r.S.Walls, .int .i64 r.S.Top, .int .i64 r.S.Bottom, .int .i64 r.S.Pattern, .int .i64 r.S.Spacing, .bool r.S.Support, .int .i64 r.S.Reach, .int .i64 r.S.Gap, .int .i64 r.S.Brim, .int .i64 r.S.Skirt, .int .i64 r.S.Drop, .int .i64 r.S.Feed, .int .i64 r.S.Travel, .int .i64 r.S.Retract, .int .i64 r.S.MinTime, .int .i64 r.S.MinFeed, .int .i64 r.S.Nozzle, .int .i64 r.S.Bed, .int .i64 r.At.X, .int .i64 r.At.Y, .int .i64 r.Cells, .int .i64 r.Feed, .arr 1000024 0 0 l0.l.length, .bool r.Bad]), (1000024, .arr 0 8 55 (cellsE e_api_Cmd l0.l) false)]))) := by
 unfold t_additiveref40_state_path at h
 simp only [e04, flen_nil] at h
 by_cases c1 : (band (igt (flen p1.Cells) 0) (bor (ilt p1.Speed 1) (igt p1.Speed 1048576))) = true
 · rw [if_pos c1] at h
   by_cases c2 : (bor (ieq (flen p1.Cells) 0) true) = true
   · rw [if_pos c2] at h
     cases h
     refine FC_byref (lf := lf107) rfl rfl rfl ?_
     simp only [lf107, lc107]
     rcases tof (igt (flen p1.Cells) 0) with a3 | a3
     · rcases tof (ilt p1.Speed 1) with a4 | a4
       · rcases tof (ieq (flen p1.Cells) 0) with a5 | a5
         · simp (maxSteps := 4000000) [a3, a4, a5, e04]
         · simp (maxSteps := 4000000) [a3, a4, a5, e04]
       · rcases tof (igt p1.Speed 1048576) with a6 | a6
         · rcases tof (ieq (flen p1.Cells) 0) with a7 | a7
           · simp (maxSteps := 4000000) [a3, a4, a6, a7, e04]
           · simp (maxSteps := 4000000) [a3, a4, a6, a7, e04]
         · simp [a3, a4, a6] at c1
     · simp [a3] at c1
   · rw [if_neg c2] at h
     rw [Bool.not_eq_true] at c2
     cases h9 : gOpt (ieq p1.Kind 3) (fget p1.Cells 0) with
     | none => (rw [h9] at h; cases h)
     | some v10 =>
      simp only [h9] at h
      have f8 := fun (q0 : (ieq p1.Kind 3) = true) => iaddr_F (e := e_api_Cell) (gOpt_getD (⟨0, 0⟩ : api_Cell) h9 q0)
      by_cases c11 : (band (ieq p1.Kind 3) (band (ieq (((v10.getD (⟨0, 0⟩ : api_Cell))).X) p0.At.X) (band (ieq (((v10.getD (⟨0, 0⟩ : api_Cell))).Y) p0.At.Y) true))) = true
      · rw [if_pos c11] at h
        cases h13 : t_additiveref40_state_amount (⟨p0.S, p0.At, p0.Cells, p0.Feed, (FS.nil : (FS api_Cmd)), true⟩ : additiveref40_state) 1 with
        | none => (rw [h13] at h; cases h)
        | some v14 =>
         simp only [h13] at h
         have f12 := t_additiveref40_state_amount_ok h13
         try simp only [encF_nil] at f12
         cases h15 : t_additiveref40_state_add (⟨p0.S, p0.At, p0.Cells, p0.Feed, (FS.nil : (FS api_Cmd)), true⟩ : additiveref40_state) (⟨1, 8, 0, 0, 0, v14, 0, 0⟩ : api_Cmd) (imul .i64 p1.Speed p0.S.Pitch) with
         | none => (rw [h15] at h; cases h)
         | some v16 =>
          simp only [h15] at h
          obtain ⟨f17, ⟨l19, e18⟩⟩ := t_additiveref40_state_add_okN rfl h15
          simp only [e18] at f17
          try simp only [e18] at h
          try simp only [fset_len, encF_nil, fcase_nil, fcase_lst, fcase_fsnoc, fcase_fapp, fcase_fset, fcase_frep, fcase_flit, fcase_flst] at f17
          try simp only [fcase_nil, fcase_lst, fcase_fsnoc, fcase_fapp, fcase_fset, fcase_frep, fcase_flit, fcase_flst] at f17
          cases h21 : fsl p1.Cells 1 (flen p1.Cells) with
          | none => (rw [h21] at h; cases h)
          | some v22 =>
           simp only [h21] at h
           have f20 := slice_Flo (e := e_api_Cell) h21
           cases h23 : t_additiveref40_state_move (⟨v16.S, v16.At, v16.Cells, v16.Feed, (FS.lst l19), v16.Bad⟩ : additiveref40_state) p1 v22 1 with
           | none => (rw [h23] at h; cases h)
           | some v24 =>
            simp only [h23] at h
            obtain ⟨f25, ⟨l27, e26⟩⟩ := t_additiveref40_state_move_okO rfl h23
            simp only [e26] at f25
            try simp only [e26] at h
            try simp only [fset_len, encF_nil, fcase_nil, fcase_lst, fcase_fsnoc, fcase_fapp, fcase_fset, fcase_frep, fcase_flit, fcase_flst] at f25
            try simp only [fcase_nil, fcase_lst, fcase_fsnoc, fcase_fapp, fcase_fset, fcase_frep, fcase_flit, fcase_flst] at f25
            by_cases c28 : (ieq p1.Kind 3) = true
            · rw [if_pos c28] at h
              cases h30 : fget p1.Cells (isub .i64 (flen p1.Cells) 1) with
              | none => (rw [h30] at h; cases h)
              | some v31 =>
               simp only [h30] at h
               have f29 := iaddr_F (e := e_api_Cell) h30
               cases h
               refine FC_byref (lf := lf107) rfl rfl rfl ?_
               simp only [lf107, lc107]
               rcases tof (igt (flen p1.Cells) 0) with a32 | a32
               · rcases tof (ilt p1.Speed 1) with a33 | a33
                 · simp [a32, a33] at c2
                 · rcases tof (igt p1.Speed 1048576) with a34 | a34
                   · simp [a32, a33, a34] at c2
                   · simp [a32, a33, a34] at c1
               · simp [a32] at c1
            · rw [if_neg c28] at h
              rw [Bool.not_eq_true] at c28
              cases h36 : fget p1.Cells (isub .i64 (flen p1.Cells) 1) with
              | none => (rw [h36] at h; cases h)
              | some v37 =>
               simp only [h36] at h
               have f35 := iaddr_F (e := e_api_Cell) h36
               cases h
               refine FC_byref (lf := lf107) rfl rfl rfl ?_
               simp only [lf107, lc107]
               rcases tof (igt (flen p1.Cells) 0) with a38 | a38
               · rcases tof (ilt p1.Speed 1) with a39 | a39
                 · simp [a38, a39] at c2
                 · rcases tof (igt p1.Speed 1048576) with a40 | a40
                   · simp [a38, a39, a40] at c2
                   · simp [a38, a39, a40] at c1
               · simp [a38] at c1
      · rw [if_neg c11] at h
        rw [Bool.not_eq_true] at c11
        cases h41 : t_additiveref40_state_move (⟨p0.S, p0.At, p0.Cells, p0.Feed, (FS.nil : (FS api_Cmd)), true⟩ : additiveref40_state) p1 p1.Cells 0 with
        | none => (rw [h41] at h; cases h)
        | some v42 =>
         simp only [h41] at h
         have f43 := t_additiveref40_state_move_okN rfl h41
         try simp only [fset_len, encF_nil, fcase_nil, fcase_lst, fcase_fsnoc, fcase_fapp, fcase_fset, fcase_frep, fcase_flit, fcase_flst] at f43
         cases e45 : v42.Out with
         | nil =>
          try simp only [e45, flen_nil] at h
          simp only [e45, flen_nil, fcase_nil, fcase_lst] at f43
          by_cases c46 : (ieq p1.Kind 3) = true
          · rw [if_pos c46] at h
            cases h48 : fget p1.Cells (isub .i64 (flen p1.Cells) 1) with
            | none => (rw [h48] at h; cases h)
            | some v49 =>
             simp only [h48] at h
             have f47 := iaddr_F (e := e_api_Cell) h48
             cases h
             refine FC_byref (lf := lf107) rfl rfl rfl ?_
             simp only [lf107, lc107]
             rcases tof (igt (flen p1.Cells) 0) with a50 | a50
             · rcases tof (ilt p1.Speed 1) with a51 | a51
               · simp [a50, a51] at c2
               · rcases tof (igt p1.Speed 1048576) with a52 | a52
                 · simp [a50, a51, a52] at c2
                 · simp [a50, a51, a52] at c1
             · simp [a50] at c1
          · rw [if_neg c46] at h
            rw [Bool.not_eq_true] at c46
            cases h54 : fget p1.Cells (isub .i64 (flen p1.Cells) 1) with
            | none => (rw [h54] at h; cases h)
            | some v55 =>
             simp only [h54] at h
             have f53 := iaddr_F (e := e_api_Cell) h54
             cases h
             refine FC_byref (lf := lf107) rfl rfl rfl ?_
             simp only [lf107, lc107]
             rcases tof (igt (flen p1.Cells) 0) with a56 | a56
             · rcases tof (ilt p1.Speed 1) with a57 | a57
               · simp [a56, a57] at c2
               · rcases tof (igt p1.Speed 1048576) with a58 | a58
                 · simp [a56, a57, a58] at c2
                 · simp [a56, a57, a58] at c1
             · simp [a56] at c1
         | lst l44 =>
          try simp only [e45] at h
          simp only [e45, flen_nil, fcase_nil, fcase_lst] at f43
          by_cases c59 : (ieq p1.Kind 3) = true
          · rw [if_pos c59] at h
            cases h61 : fget p1.Cells (isub .i64 (flen p1.Cells) 1) with
            | none => (rw [h61] at h; cases h)
            | some v62 =>
             simp only [h61] at h
             have f60 := iaddr_F (e := e_api_Cell) h61
             cases h
             refine FC_byref (lf := lf107) rfl rfl rfl ?_
             simp only [lf107, lc107]
             rcases tof (igt (flen p1.Cells) 0) with a63 | a63
             · rcases tof (ilt p1.Speed 1) with a64 | a64
               · simp [a63, a64] at c2
               · rcases tof (igt p1.Speed 1048576) with a65 | a65
                 · simp [a63, a64, a65] at c2
                 · simp [a63, a64, a65] at c1
             · simp [a63] at c1
          · rw [if_neg c59] at h
            rw [Bool.not_eq_true] at c59
            cases h67 : fget p1.Cells (isub .i64 (flen p1.Cells) 1) with
            | none => (rw [h67] at h; cases h)
            | some v68 =>
             simp only [h67] at h
             have f66 := iaddr_F (e := e_api_Cell) h67
             cases h
             refine FC_byref (lf := lf107) rfl rfl rfl ?_
             simp only [lf107, lc107]
             rcases tof (igt (flen p1.Cells) 0) with a69 | a69
             · rcases tof (ilt p1.Speed 1) with a70 | a70
               · simp [a69, a70] at c2
               · rcases tof (igt p1.Speed 1048576) with a71 | a71
                 · simp [a69, a70, a71] at c2
                 · simp [a69, a70, a71] at c1
             · simp [a69] at c1
 · rw [if_neg c1] at h
   rw [Bool.not_eq_true] at c1
   by_cases c72 : (bor (ieq (flen p1.Cells) 0) p0.Bad) = true
   · rw [if_pos c72] at h
     cases h
     refine FC_byref (lf := lf107) rfl rfl rfl ?_
     simp only [lf107, lc107]
     rcases tof (igt (flen p1.Cells) 0) with a73 | a73
     · rcases tof (ilt p1.Speed 1) with a74 | a74
       · simp [a73, a74] at c1
       · rcases tof (igt p1.Speed 1048576) with a75 | a75
         · simp [a73, a74, a75] at c1
         · rcases tof (ieq (flen p1.Cells) 0) with a76 | a76
           · simp (maxSteps := 4000000) [a73, a74, a75, a76, e04]
           · rcases tof p0.Bad with a77 | a77
             · simp (maxSteps := 4000000) [a73, a74, a75, a76, a77, e04]
             · simp [a73, a74, a75, a76, a77] at c72
     · rcases tof (ieq (flen p1.Cells) 0) with a78 | a78
       · simp (maxSteps := 4000000) [a73, a78, e04]
       · rcases tof p0.Bad with a79 | a79
         · simp (maxSteps := 4000000) [a73, a78, a79, e04]
         · simp [a73, a78, a79] at c72
   · rw [if_neg c72] at h
     rw [Bool.not_eq_true] at c72
     cases h81 : gOpt (ieq p1.Kind 3) (fget p1.Cells 0) with
     | none => (rw [h81] at h; cases h)
     | some v82 =>
      simp only [h81] at h
      have f80 := fun (q0 : (ieq p1.Kind 3) = true) => iaddr_F (e := e_api_Cell) (gOpt_getD (⟨0, 0⟩ : api_Cell) h81 q0)
      by_cases c83 : (band (ieq p1.Kind 3) (band (ieq (((v82.getD (⟨0, 0⟩ : api_Cell))).X) p0.At.X) (band (ieq (((v82.getD (⟨0, 0⟩ : api_Cell))).Y) p0.At.Y) true))) = true
      · rw [if_pos c83] at h
        cases h85 : t_additiveref40_state_amount (⟨p0.S, p0.At, p0.Cells, p0.Feed, (FS.nil : (FS api_Cmd)), p0.Bad⟩ : additiveref40_state) 1 with
        | none => (rw [h85] at h; cases h)
        | some v86 =>
         simp only [h85] at h
         have f84 := t_additiveref40_state_amount_ok h85
         try simp only [encF_nil] at f84
         cases h87 : t_additiveref40_state_add (⟨p0.S, p0.At, p0.Cells, p0.Feed, (FS.nil : (FS api_Cmd)), p0.Bad⟩ : additiveref40_state) (⟨1, 8, 0, 0, 0, v86, 0, 0⟩ : api_Cmd) (imul .i64 p1.Speed p0.S.Pitch) with
         | none => (rw [h87] at h; cases h)
         | some v88 =>
          simp only [h87] at h
          obtain ⟨f89, ⟨l91, e90⟩⟩ := t_additiveref40_state_add_okN rfl h87
          simp only [e90] at f89
          try simp only [e90] at h
          try simp only [fset_len, encF_nil, fcase_nil, fcase_lst, fcase_fsnoc, fcase_fapp, fcase_fset, fcase_frep, fcase_flit, fcase_flst] at f89
          try simp only [fcase_nil, fcase_lst, fcase_fsnoc, fcase_fapp, fcase_fset, fcase_frep, fcase_flit, fcase_flst] at f89
          cases h93 : fsl p1.Cells 1 (flen p1.Cells) with
          | none => (rw [h93] at h; cases h)
          | some v94 =>
           simp only [h93] at h
           have f92 := slice_Flo (e := e_api_Cell) h93
           cases h95 : t_additiveref40_state_move (⟨v88.S, v88.At, v88.Cells, v88.Feed, (FS.lst l91), v88.Bad⟩ : additiveref40_state) p1 v94 1 with
           | none => (rw [h95] at h; cases h)
           | some v96 =>
            simp only [h95] at h
            obtain ⟨f97, ⟨l99, e98⟩⟩ := t_additiveref40_state_move_okO rfl h95
            simp only [e98] at f97
            try simp only [e98] at h
            try simp only [fset_len, encF_nil, fcase_nil, fcase_lst, fcase_fsnoc, fcase_fapp, fcase_fset, fcase_frep, fcase_flit, fcase_flst] at f97
            try simp only [fcase_nil, fcase_lst, fcase_fsnoc, fcase_fapp, fcase_fset, fcase_frep, fcase_flit, fcase_flst] at f97
            by_cases c100 : (ieq p1.Kind 3) = true
            · rw [if_pos c100] at h
              cases h102 : fget p1.Cells (isub .i64 (flen p1.Cells) 1) with
              | none => (rw [h102] at h; cases h)
              | some v103 =>
               simp only [h102] at h
               have f101 := iaddr_F (e := e_api_Cell) h102
               cases h
               refine FC_byref (lf := lf107) rfl rfl rfl ?_
               simp only [lf107, lc107]
               rcases tof (igt (flen p1.Cells) 0) with a104 | a104
               · rcases tof (ilt p1.Speed 1) with a105 | a105
                 · simp [a104, a105] at c1
                 · rcases tof (igt p1.Speed 1048576) with a106 | a106
                   · simp [a104, a105, a106] at c1
                   · rcases tof (ieq (flen p1.Cells) 0) with a107 | a107
                     · simp [a104, a105, a106, a107] at c72
                     · rcases tof p0.Bad with a108 | a108
                       · simp [a104, a105, a106, a107, a108] at c72
                       · rcases tof (ieq (((v82.getD (⟨0, 0⟩ : api_Cell))).X) p0.At.X) with a109 | a109
                         · rcases tof (ieq (((v82.getD (⟨0, 0⟩ : api_Cell))).Y) p0.At.Y) with a110 | a110
                           · try simp only [a104, a105, a106, a107, a108, c100, a109, a110] at f84 f89 f97
                             simp (maxSteps := 4000000) [a104, a105, a106, a107, a108, c100, a109, a110, e04, f80, f84, e90, f89, f92, e98, f97, f101]
                           · simp [a104, a105, a106, a107, a108, c100, a109, a110] at c83
                         · simp [a104, a105, a106, a107, a108, c100, a109] at c83
               · rcases tof (ieq (flen p1.Cells) 0) with a111 | a111
                 · simp [a104, a111] at c72
                 · rcases tof p0.Bad with a112 | a112
                   · simp [a104, a111, a112] at c72
                   · rcases tof (ieq (((v82.getD (⟨0, 0⟩ : api_Cell))).X) p0.At.X) with a113 | a113
                     · rcases tof (ieq (((v82.getD (⟨0, 0⟩ : api_Cell))).Y) p0.At.Y) with a114 | a114
                       · try simp only [a104, a111, a112, c100, a113, a114] at f84 f89 f97
                         simp (maxSteps := 4000000) [a104, a111, a112, c100, a113, a114, e04, f80, f84, e90, f89, f92, e98, f97, f101]
                       · simp [a104, a111, a112, c100, a113, a114] at c83
                     · simp [a104, a111, a112, c100, a113] at c83
            · rw [if_neg c100] at h
              rw [Bool.not_eq_true] at c100
              cases h116 : fget p1.Cells (isub .i64 (flen p1.Cells) 1) with
              | none => (rw [h116] at h; cases h)
              | some v117 =>
               simp only [h116] at h
               have f115 := iaddr_F (e := e_api_Cell) h116
               cases h
               refine FC_byref (lf := lf107) rfl rfl rfl ?_
               simp only [lf107, lc107]
               rcases tof (igt (flen p1.Cells) 0) with a118 | a118
               · rcases tof (ilt p1.Speed 1) with a119 | a119
                 · simp [a118, a119] at c1
                 · rcases tof (igt p1.Speed 1048576) with a120 | a120
                   · simp [a118, a119, a120] at c1
                   · rcases tof (ieq (flen p1.Cells) 0) with a121 | a121
                     · simp [a118, a119, a120, a121] at c72
                     · rcases tof p0.Bad with a122 | a122
                       · simp [a118, a119, a120, a121, a122] at c72
                       · simp [a118, a119, a120, a121, a122, c100] at c83
               · rcases tof (ieq (flen p1.Cells) 0) with a123 | a123
                 · simp [a118, a123] at c72
                 · rcases tof p0.Bad with a124 | a124
                   · simp [a118, a123, a124] at c72
                   · simp [a118, a123, a124, c100] at c83
      · rw [if_neg c83] at h
        rw [Bool.not_eq_true] at c83
        cases h125 : t_additiveref40_state_move (⟨p0.S, p0.At, p0.Cells, p0.Feed, (FS.nil : (FS api_Cmd)), p0.Bad⟩ : additiveref40_state) p1 p1.Cells 0 with
        | none => (rw [h125] at h; cases h)
        | some v126 =>
         simp only [h125] at h
         have f127 := t_additiveref40_state_move_okN rfl h125
         try simp only [fset_len, encF_nil, fcase_nil, fcase_lst, fcase_fsnoc, fcase_fapp, fcase_fset, fcase_frep, fcase_flit, fcase_flst] at f127
         cases e129 : v126.Out with
         | nil =>
          try simp only [e129, flen_nil] at h
          simp only [e129, flen_nil, fcase_nil, fcase_lst] at f127
          by_cases c130 : (ieq p1.Kind 3) = true
          · rw [if_pos c130] at h
            cases h132 : fget p1.Cells (isub .i64 (flen p1.Cells) 1) with
            | none => (rw [h132] at h; cases h)
            | some v133 =>
             simp only [h132] at h
             have f131 := iaddr_F (e := e_api_Cell) h132
             cases h
             refine FC_byref (lf := lf107) rfl rfl rfl ?_
             simp only [lf107, lc107]
             rcases tof (igt (flen p1.Cells) 0) with a134 | a134
             · rcases tof (ilt p1.Speed 1) with a135 | a135
               · simp [a134, a135] at c1
               · rcases tof (igt p1.Speed 1048576) with a136 | a136
                 · simp [a134, a135, a136] at c1
                 · rcases tof (ieq (flen p1.Cells) 0) with a137 | a137
                   · simp [a134, a135, a136, a137] at c72
                   · rcases tof p0.Bad with a138 | a138
                     · simp [a134, a135, a136, a137, a138] at c72
                     · rcases tof (ieq (((v82.getD (⟨0, 0⟩ : api_Cell))).X) p0.At.X) with a139 | a139
                       · rcases tof (ieq (((v82.getD (⟨0, 0⟩ : api_Cell))).Y) p0.At.Y) with a140 | a140
                         · simp [a134, a135, a136, a137, a138, c130, a139, a140] at c83
                         · try simp only [a134, a135, a136, a137, a138, c130, a139, a140] at f127
                           simp (maxSteps := 4000000) [a134, a135, a136, a137, a138, c130, a139, a140, e04, f80, f127, e129, f131]
                       · try simp only [a134, a135, a136, a137, a138, c130, a139] at f127
                         simp (maxSteps := 4000000) [a134, a135, a136, a137, a138, c130, a139, e04, f80, f127, e129, f131]
             · rcases tof (ieq (flen p1.Cells) 0) with a141 | a141
               · simp [a134, a141] at c72
               · rcases tof p0.Bad with a142 | a142
                 · simp [a134, a141, a142] at c72
                 · rcases tof (ieq (((v82.getD (⟨0, 0⟩ : api_Cell))).X) p0.At.X) with a143 | a143
                   · rcases tof (ieq (((v82.getD (⟨0, 0⟩ : api_Cell))).Y) p0.At.Y) with a144 | a144
                     · simp [a134, a141, a142, c130, a143, a144] at c83
                     · try simp only [a134, a141, a142, c130, a143, a144] at f127
                       simp (maxSteps := 4000000) [a134, a141, a142, c130, a143, a144, e04, f80, f127, e129, f131]
                   · try simp only [a134, a141, a142, c130, a143] at f127
                     simp (maxSteps := 4000000) [a134, a141, a142, c130, a143, e04, f80, f127, e129, f131]
          · rw [if_neg c130] at h
            rw [Bool.not_eq_true] at c130
            cases h146 : fget p1.Cells (isub .i64 (flen p1.Cells) 1) with
            | none => (rw [h146] at h; cases h)
            | some v147 =>
             simp only [h146] at h
             have f145 := iaddr_F (e := e_api_Cell) h146
             cases h
             refine FC_byref (lf := lf107) rfl rfl rfl ?_
             simp only [lf107, lc107]
             rcases tof (igt (flen p1.Cells) 0) with a148 | a148
             · rcases tof (ilt p1.Speed 1) with a149 | a149
               · simp [a148, a149] at c1
               · rcases tof (igt p1.Speed 1048576) with a150 | a150
                 · simp [a148, a149, a150] at c1
                 · rcases tof (ieq (flen p1.Cells) 0) with a151 | a151
                   · simp [a148, a149, a150, a151] at c72
                   · rcases tof p0.Bad with a152 | a152
                     · simp [a148, a149, a150, a151, a152] at c72
                     · try simp only [a148, a149, a150, a151, a152, c130] at f127
                       simp (maxSteps := 4000000) [a148, a149, a150, a151, a152, c130, e04, f80, f127, e129, f145]
             · rcases tof (ieq (flen p1.Cells) 0) with a153 | a153
               · simp [a148, a153] at c72
               · rcases tof p0.Bad with a154 | a154
                 · simp [a148, a153, a154] at c72
                 · try simp only [a148, a153, a154, c130] at f127
                   simp (maxSteps := 4000000) [a148, a153, a154, c130, e04, f80, f127, e129, f145]
         | lst l128 =>
          try simp only [e129] at h
          simp only [e129, flen_nil, fcase_nil, fcase_lst] at f127
          by_cases c155 : (ieq p1.Kind 3) = true
          · rw [if_pos c155] at h
            cases h157 : fget p1.Cells (isub .i64 (flen p1.Cells) 1) with
            | none => (rw [h157] at h; cases h)
            | some v158 =>
             simp only [h157] at h
             have f156 := iaddr_F (e := e_api_Cell) h157
             cases h
             refine FC_byref (lf := lf107) rfl rfl rfl ?_
             simp only [lf107, lc107]
             rcases tof (igt (flen p1.Cells) 0) with a159 | a159
             · rcases tof (ilt p1.Speed 1) with a160 | a160
               · simp [a159, a160] at c1
               · rcases tof (igt p1.Speed 1048576) with a161 | a161
                 · simp [a159, a160, a161] at c1
                 · rcases tof (ieq (flen p1.Cells) 0) with a162 | a162
                   · simp [a159, a160, a161, a162] at c72
                   · rcases tof p0.Bad with a163 | a163
                     · simp [a159, a160, a161, a162, a163] at c72
                     · rcases tof (ieq (((v82.getD (⟨0, 0⟩ : api_Cell))).X) p0.At.X) with a164 | a164
                       · rcases tof (ieq (((v82.getD (⟨0, 0⟩ : api_Cell))).Y) p0.At.Y) with a165 | a165
                         · simp [a159, a160, a161, a162, a163, c155, a164, a165] at c83
                         · try simp only [a159, a160, a161, a162, a163, c155, a164, a165] at f127
                           simp (maxSteps := 4000000) [a159, a160, a161, a162, a163, c155, a164, a165, e04, f80, f127, e129, f156]
                       · try simp only [a159, a160, a161, a162, a163, c155, a164] at f127
                         simp (maxSteps := 4000000) [a159, a160, a161, a162, a163, c155, a164, e04, f80, f127, e129, f156]
             · rcases tof (ieq (flen p1.Cells) 0) with a166 | a166
               · simp [a159, a166] at c72
               · rcases tof p0.Bad with a167 | a167
                 · simp [a159, a166, a167] at c72
                 · rcases tof (ieq (((v82.getD (⟨0, 0⟩ : api_Cell))).X) p0.At.X) with a168 | a168
                   · rcases tof (ieq (((v82.getD (⟨0, 0⟩ : api_Cell))).Y) p0.At.Y) with a169 | a169
                     · simp [a159, a166, a167, c155, a168, a169] at c83
                     · try simp only [a159, a166, a167, c155, a168, a169] at f127
                       simp (maxSteps := 4000000) [a159, a166, a167, c155, a168, a169, e04, f80, f127, e129, f156]
                   · try simp only [a159, a166, a167, c155, a168] at f127
                     simp (maxSteps := 4000000) [a159, a166, a167, c155, a168, e04, f80, f127, e129, f156]
          · rw [if_neg c155] at h
            rw [Bool.not_eq_true] at c155
            cases h171 : fget p1.Cells (isub .i64 (flen p1.Cells) 1) with
            | none => (rw [h171] at h; cases h)
            | some v172 =>
             simp only [h171] at h
             have f170 := iaddr_F (e := e_api_Cell) h171
             cases h
             refine FC_byref (lf := lf107) rfl rfl rfl ?_
             simp only [lf107, lc107]
             rcases tof (igt (flen p1.Cells) 0) with a173 | a173
             · rcases tof (ilt p1.Speed 1) with a174 | a174
               · simp [a173, a174] at c1
               · rcases tof (igt p1.Speed 1048576) with a175 | a175
                 · simp [a173, a174, a175] at c1
                 · rcases tof (ieq (flen p1.Cells) 0) with a176 | a176
                   · simp [a173, a174, a175, a176] at c72
                   · rcases tof p0.Bad with a177 | a177
                     · simp [a173, a174, a175, a176, a177] at c72
                     · try simp only [a173, a174, a175, a176, a177, c155] at f127
                       simp (maxSteps := 4000000) [a173, a174, a175, a176, a177, c155, e04, f80, f127, e129, f170]
             · rcases tof (ieq (flen p1.Cells) 0) with a178 | a178
               · simp [a173, a178] at c72
               · rcases tof p0.Bad with a179 | a179
                 · simp [a173, a178, a179] at c72
                 · try simp only [a173, a178, a179, c155] at f127
                   simp (maxSteps := 4000000) [a173, a178, a179, c155, e04, f80, f127, e129, f170]
theorem t_additiveref40_state_path_okO {p0 : additiveref40_state} {p1 : api_Op} {le04 : List api_Cmd} (e04 : p0.Out = FS.lst le04) {r : additiveref40_state} (h : t_additiveref40_state_path p0 p1 = some r) : FC env 107 [.ptr 0 0 0, .agg [.int .i64 p1.Kind, .int .i64 p1.Role, .int .i64 p1.Layer, .int .i64 p1.Z, .int .i64 p1.Speed, encF e_api_Cell p1.Cells]] (some (hl [(0, .box 0 [.int .i64 p0.S.Pitch, .int .i64 p0.S.Height, .int .i64 p0.S.Walls, .int .i64 p0.S.Top, .int .i64 p0.S.Bottom, .int .i64 p0.S.Pattern, .int .i64 p0.S.Spacing, .bool p0.S.Support, .int .i64 p0.S.Reach, .int .i64 p0.S.Gap, .int .i64 p0.S.Brim, .int .i64 p0.S.Skirt, .int .i64 p0.S.Drop, .int .i64 p0.S.Feed, .int .i64 p0.S.Travel, .int .i64 p0.S.Retract, .int .i64 p0.S.MinTime, .int .i64 p0.S.MinFeed, .int .i64 p0.S.Nozzle, .int .i64 p0.S.Bed, .int .i64 p0.At.X, .int .i64 p0.At.Y, .int .i64 p0.Cells, .int .i64 p0.Feed, .arr 1000024 0 0 p0.Out.l.length, .bool p0.Bad]), (1000024, .arr 0 8 55 (cellsE e_api_Cmd p0.Out.l) false)], 0)) = some (.tup [], hl [(0, .box 0 [.int .i64 r.S.Pitch, .int .i64 r.S.Height, .int .i64 r.S.Walls, .int .i64 r.S.Top, .int .i64 r.S.Bottom, .int .i64 r.S.Pattern, .int .i64 r.S.Spacing, .bool r.S.Support, .int .i64 r.S.Reach, .int .i64 r.S.Gap, .int .i64 r.S.Brim, .int .i64 r.S.Skirt, .int .i64 r.S.Drop, .int .i64 r.S.Feed, .int .i64 r.S.Travel, .int .i64 r.S.Retract, .int .i64 r.S.MinTime, .int .i64 r.S.MinFeed, .int .i64 r.S.Nozzle, .int .i64 r.S.Bed, .int .i64 r.At.X, .int .i64 r.At.Y, .int .i64 r.Cells, .int .i64 r.Feed, .arr 1000024 0 0 r.Out.l.length, .bool r.Bad]), (1000024, .arr 0 8 55 (cellsE e_api_Cmd r.Out.l) false)]) ∧ ∃ l, r.Out = FS.lst l := by
 unfold t_additiveref40_state_path at h
 simp only [e04, flen_nil] at h
 by_cases c1 : (band (igt (flen p1.Cells) 0) (bor (ilt p1.Speed 1) (igt p1.Speed 1048576))) = true
 · rw [if_pos c1] at h
   by_cases c2 : (bor (ieq (flen p1.Cells) 0) true) = true
   · rw [if_pos c2] at h
     cases h
     refine ⟨?_, by first | exact ⟨_, rfl⟩ | exact ⟨_, by assumption⟩⟩
     refine FC_byref (lf := lf107) rfl rfl rfl ?_
     simp only [lf107, lc107]
     rcases tof (igt (flen p1.Cells) 0) with a3 | a3
     · rcases tof (ilt p1.Speed 1) with a4 | a4
       · rcases tof (ieq (flen p1.Cells) 0) with a5 | a5
         · simp (maxSteps := 4000000) [a3, a4, a5, e04]
         · simp (maxSteps := 4000000) [a3, a4, a5, e04]
       · rcases tof (igt p1.Speed 1048576) with a6 | a6
         · rcases tof (ieq (flen p1.Cells) 0) with a7 | a7
           · simp (maxSteps := 4000000) [a3, a4, a6, a7, e04]
           · simp (maxSteps := 4000000) [a3, a4, a6, a7, e04]
         · simp [a3, a4, a6] at c1
     · simp [a3] at c1
   · rw [if_neg c2] at h
     rw [Bool.not_eq_true] at c2
     cases h9 : gOpt (ieq p1.Kind 3) (fget p1.Cells 0) with
     | none => (rw [h9] at h; cases h)
     | some v10 =>
      simp only [h9] at h
      have f8 := fun (q0 : (ieq p1.Kind 3) = true) => iaddr_F (e := e_api_Cell) (gOpt_getD (⟨0, 0⟩ : api_Cell) h9 q0)
      by_cases c11 : (band (ieq p1.Kind 3) (band (ieq (((v10.getD (⟨0, 0⟩ : api_Cell))).X) p0.At.X) (band (ieq (((v10.getD (⟨0, 0⟩ : api_Cell))).Y) p0.At.Y) true))) = true
      · rw [if_pos c11] at h
        cases h13 : t_additiveref40_state_amount (⟨p0.S, p0.At, p0.Cells, p0.Feed, (FS.lst le04), true⟩ : additiveref40_state) 1 with
        | none => (rw [h13] at h; cases h)
        | some v14 =>
         simp only [h13] at h
         have f12 := t_additiveref40_state_amount_ok h13
         cases h15 : t_additiveref40_state_add (⟨p0.S, p0.At, p0.Cells, p0.Feed, (FS.lst le04), true⟩ : additiveref40_state) (⟨1, 8, 0, 0, 0, v14, 0, 0⟩ : api_Cmd) (imul .i64 p1.Speed p0.S.Pitch) with
         | none => (rw [h15] at h; cases h)
         | some v16 =>
          simp only [h15] at h
          obtain ⟨f17, ⟨l19, e18⟩⟩ := t_additiveref40_state_add_okO rfl h15
          simp only [e18] at f17
          try simp only [e18] at h
          try simp only [fset_len, encF_nil, fcase_nil, fcase_lst, fcase_fsnoc, fcase_fapp, fcase_fset, fcase_frep, fcase_flit, fcase_flst] at f17
          try simp only [fcase_nil, fcase_lst, fcase_fsnoc, fcase_fapp, fcase_fset, fcase_frep, fcase_flit, fcase_flst] at f17
          cases h21 : fsl p1.Cells 1 (flen p1.Cells) with
          | none => (rw [h21] at h; cases h)
          | some v22 =>
           simp only [h21] at h
           have f20 := slice_Flo (e := e_api_Cell) h21
           cases h23 : t_additiveref40_state_move (⟨v16.S, v16.At, v16.Cells, v16.Feed, (FS.lst l19), v16.Bad⟩ : additiveref40_state) p1 v22 1 with
           | none => (rw [h23] at h; cases h)
           | some v24 =>
            simp only [h23] at h
            obtain ⟨f25, ⟨l27, e26⟩⟩ := t_additiveref40_state_move_okO rfl h23
            simp only [e26] at f25
            try simp only [e26] at h
            try simp only [fset_len, encF_nil, fcase_nil, fcase_lst, fcase_fsnoc, fcase_fapp, fcase_fset, fcase_frep, fcase_flit, fcase_flst] at f25
            try simp only [fcase_nil, fcase_lst, fcase_fsnoc, fcase_fapp, fcase_fset, fcase_frep, fcase_flit, fcase_flst] at f25
            by_cases c28 : (ieq p1.Kind 3) = true
            · rw [if_pos c28] at h
              cases h30 : fget p1.Cells (isub .i64 (flen p1.Cells) 1) with
              | none => (rw [h30] at h; cases h)
              | some v31 =>
               simp only [h30] at h
               have f29 := iaddr_F (e := e_api_Cell) h30
               cases h
               refine ⟨?_, by first | exact ⟨_, rfl⟩ | exact ⟨_, by assumption⟩⟩
               refine FC_byref (lf := lf107) rfl rfl rfl ?_
               simp only [lf107, lc107]
               rcases tof (igt (flen p1.Cells) 0) with a32 | a32
               · rcases tof (ilt p1.Speed 1) with a33 | a33
                 · simp [a32, a33] at c2
                 · rcases tof (igt p1.Speed 1048576) with a34 | a34
                   · simp [a32, a33, a34] at c2
                   · simp [a32, a33, a34] at c1
               · simp [a32] at c1
            · rw [if_neg c28] at h
              rw [Bool.not_eq_true] at c28
              cases h36 : fget p1.Cells (isub .i64 (flen p1.Cells) 1) with
              | none => (rw [h36] at h; cases h)
              | some v37 =>
               simp only [h36] at h
               have f35 := iaddr_F (e := e_api_Cell) h36
               cases h
               refine ⟨?_, by first | exact ⟨_, rfl⟩ | exact ⟨_, by assumption⟩⟩
               refine FC_byref (lf := lf107) rfl rfl rfl ?_
               simp only [lf107, lc107]
               rcases tof (igt (flen p1.Cells) 0) with a38 | a38
               · rcases tof (ilt p1.Speed 1) with a39 | a39
                 · simp [a38, a39] at c2
                 · rcases tof (igt p1.Speed 1048576) with a40 | a40
                   · simp [a38, a39, a40] at c2
                   · simp [a38, a39, a40] at c1
               · simp [a38] at c1
      · rw [if_neg c11] at h
        rw [Bool.not_eq_true] at c11
        cases h41 : t_additiveref40_state_move (⟨p0.S, p0.At, p0.Cells, p0.Feed, (FS.lst le04), true⟩ : additiveref40_state) p1 p1.Cells 0 with
        | none => (rw [h41] at h; cases h)
        | some v42 =>
         simp only [h41] at h
         obtain ⟨f43, ⟨l45, e44⟩⟩ := t_additiveref40_state_move_okO rfl h41
         simp only [e44] at f43
         try simp only [e44] at h
         try simp only [fset_len, encF_nil, fcase_nil, fcase_lst, fcase_fsnoc, fcase_fapp, fcase_fset, fcase_frep, fcase_flit, fcase_flst] at f43
         try simp only [fcase_nil, fcase_lst, fcase_fsnoc, fcase_fapp, fcase_fset, fcase_frep, fcase_flit, fcase_flst] at f43
         by_cases c46 : (ieq p1.Kind 3) = true
         · rw [if_pos c46] at h
           cases h48 : fget p1.Cells (isub .i64 (flen p1.Cells) 1) with
           | none => (rw [h48] at h; cases h)
           | some v49 =>
            simp only [h48] at h
            have f47 := iaddr_F (e := e_api_Cell) h48
            cases h
            refine ⟨?_, by first | exact ⟨_, rfl⟩ | exact ⟨_, by assumption⟩⟩
            refine FC_byref (lf := lf107) rfl rfl rfl ?_
            simp only [lf107, lc107]
            rcases tof (igt (flen p1.Cells) 0) with a50 | a50
            · rcases tof (ilt p1.Speed 1) with a51 | a51
              · simp [a50, a51] at c2
              · rcases tof (igt p1.Speed 1048576) with a52 | a52
                · simp [a50, a51, a52] at c2
                · simp [a50, a51, a52] at c1
            · simp [a50] at c1
         · rw [if_neg c46] at h
           rw [Bool.not_eq_true] at c46
           cases h54 : fget p1.Cells (isub .i64 (flen p1.Cells) 1) with
           | none => (rw [h54] at h; cases h)
           | some v55 =>
            simp only [h54] at h
            have f53 := iaddr_F (e := e_api_Cell) h54
            cases h
            refine ⟨?_, by first | exact ⟨_, rfl⟩ | exact ⟨_, by assumption⟩⟩
            refine FC_byref (lf := lf107) rfl rfl rfl ?_
            simp only [lf107, lc107]
            rcases tof (igt (flen p1.Cells) 0) with a56 | a56
            · rcases tof (ilt p1.Speed 1) with a57 | a57
              · simp [a56, a57] at c2
              · rcases tof (igt p1.Speed 1048576) with a58 | a58
                · simp [a56, a57, a58] at c2
                · simp [a56, a57, a58] at c1
            · simp [a56] at c1
 · rw [if_neg c1] at h
   rw [Bool.not_eq_true] at c1
   by_cases c59 : (bor (ieq (flen p1.Cells) 0) p0.Bad) = true
   · rw [if_pos c59] at h
     cases h
     refine ⟨?_, by first | exact ⟨_, rfl⟩ | exact ⟨_, by assumption⟩⟩
     refine FC_byref (lf := lf107) rfl rfl rfl ?_
     simp only [lf107, lc107]
     rcases tof (igt (flen p1.Cells) 0) with a60 | a60
     · rcases tof (ilt p1.Speed 1) with a61 | a61
       · simp [a60, a61] at c1
       · rcases tof (igt p1.Speed 1048576) with a62 | a62
         · simp [a60, a61, a62] at c1
         · rcases tof (ieq (flen p1.Cells) 0) with a63 | a63
           · simp (maxSteps := 4000000) [a60, a61, a62, a63, e04]
           · rcases tof p0.Bad with a64 | a64
             · simp (maxSteps := 4000000) [a60, a61, a62, a63, a64, e04]
             · simp [a60, a61, a62, a63, a64] at c59
     · rcases tof (ieq (flen p1.Cells) 0) with a65 | a65
       · simp (maxSteps := 4000000) [a60, a65, e04]
       · rcases tof p0.Bad with a66 | a66
         · simp (maxSteps := 4000000) [a60, a65, a66, e04]
         · simp [a60, a65, a66] at c59
   · rw [if_neg c59] at h
     rw [Bool.not_eq_true] at c59
     cases h68 : gOpt (ieq p1.Kind 3) (fget p1.Cells 0) with
     | none => (rw [h68] at h; cases h)
     | some v69 =>
      simp only [h68] at h
      have f67 := fun (q0 : (ieq p1.Kind 3) = true) => iaddr_F (e := e_api_Cell) (gOpt_getD (⟨0, 0⟩ : api_Cell) h68 q0)
      by_cases c70 : (band (ieq p1.Kind 3) (band (ieq (((v69.getD (⟨0, 0⟩ : api_Cell))).X) p0.At.X) (band (ieq (((v69.getD (⟨0, 0⟩ : api_Cell))).Y) p0.At.Y) true))) = true
      · rw [if_pos c70] at h
        cases h72 : t_additiveref40_state_amount (⟨p0.S, p0.At, p0.Cells, p0.Feed, (FS.lst le04), p0.Bad⟩ : additiveref40_state) 1 with
        | none => (rw [h72] at h; cases h)
        | some v73 =>
         simp only [h72] at h
         have f71 := t_additiveref40_state_amount_ok h72
         cases h74 : t_additiveref40_state_add (⟨p0.S, p0.At, p0.Cells, p0.Feed, (FS.lst le04), p0.Bad⟩ : additiveref40_state) (⟨1, 8, 0, 0, 0, v73, 0, 0⟩ : api_Cmd) (imul .i64 p1.Speed p0.S.Pitch) with
         | none => (rw [h74] at h; cases h)
         | some v75 =>
          simp only [h74] at h
          obtain ⟨f76, ⟨l78, e77⟩⟩ := t_additiveref40_state_add_okO rfl h74
          simp only [e77] at f76
          try simp only [e77] at h
          try simp only [fset_len, encF_nil, fcase_nil, fcase_lst, fcase_fsnoc, fcase_fapp, fcase_fset, fcase_frep, fcase_flit, fcase_flst] at f76
          try simp only [fcase_nil, fcase_lst, fcase_fsnoc, fcase_fapp, fcase_fset, fcase_frep, fcase_flit, fcase_flst] at f76
          cases h80 : fsl p1.Cells 1 (flen p1.Cells) with
          | none => (rw [h80] at h; cases h)
          | some v81 =>
           simp only [h80] at h
           have f79 := slice_Flo (e := e_api_Cell) h80
           cases h82 : t_additiveref40_state_move (⟨v75.S, v75.At, v75.Cells, v75.Feed, (FS.lst l78), v75.Bad⟩ : additiveref40_state) p1 v81 1 with
           | none => (rw [h82] at h; cases h)
           | some v83 =>
            simp only [h82] at h
            obtain ⟨f84, ⟨l86, e85⟩⟩ := t_additiveref40_state_move_okO rfl h82
            simp only [e85] at f84
            try simp only [e85] at h
            try simp only [fset_len, encF_nil, fcase_nil, fcase_lst, fcase_fsnoc, fcase_fapp, fcase_fset, fcase_frep, fcase_flit, fcase_flst] at f84
            try simp only [fcase_nil, fcase_lst, fcase_fsnoc, fcase_fapp, fcase_fset, fcase_frep, fcase_flit, fcase_flst] at f84
            by_cases c87 : (ieq p1.Kind 3) = true
            · rw [if_pos c87] at h
              cases h89 : fget p1.Cells (isub .i64 (flen p1.Cells) 1) with
              | none => (rw [h89] at h; cases h)
              | some v90 =>
               simp only [h89] at h
               have f88 := iaddr_F (e := e_api_Cell) h89
               cases h
               refine ⟨?_, by first | exact ⟨_, rfl⟩ | exact ⟨_, by assumption⟩⟩
               refine FC_byref (lf := lf107) rfl rfl rfl ?_
               simp only [lf107, lc107]
               rcases tof (igt (flen p1.Cells) 0) with a91 | a91
               · rcases tof (ilt p1.Speed 1) with a92 | a92
                 · simp [a91, a92] at c1
                 · rcases tof (igt p1.Speed 1048576) with a93 | a93
                   · simp [a91, a92, a93] at c1
                   · rcases tof (ieq (flen p1.Cells) 0) with a94 | a94
                     · simp [a91, a92, a93, a94] at c59
                     · rcases tof p0.Bad with a95 | a95
                       · simp [a91, a92, a93, a94, a95] at c59
                       · rcases tof (ieq (((v69.getD (⟨0, 0⟩ : api_Cell))).X) p0.At.X) with a96 | a96
                         · rcases tof (ieq (((v69.getD (⟨0, 0⟩ : api_Cell))).Y) p0.At.Y) with a97 | a97
                           · try simp only [a91, a92, a93, a94, a95, c87, a96, a97] at f71 f76 f84
                             simp (maxSteps := 4000000) [a91, a92, a93, a94, a95, c87, a96, a97, e04, f67, snap_rowD (e := e_api_Cmd) (el := 55) (fz := false), f71, e77, f76, f79, e85, f84, f88]
                           · simp [a91, a92, a93, a94, a95, c87, a96, a97] at c70
                         · simp [a91, a92, a93, a94, a95, c87, a96] at c70
               · rcases tof (ieq (flen p1.Cells) 0) with a98 | a98
                 · simp [a91, a98] at c59
                 · rcases tof p0.Bad with a99 | a99
                   · simp [a91, a98, a99] at c59
                   · rcases tof (ieq (((v69.getD (⟨0, 0⟩ : api_Cell))).X) p0.At.X) with a100 | a100
                     · rcases tof (ieq (((v69.getD (⟨0, 0⟩ : api_Cell))).Y) p0.At.Y) with a101 | a101
                       · try simp only [a91, a98, a99, c87, a100, a101] at f71 f76 f84
                         simp (maxSteps := 4000000) [a91, a98, a99, c87, a100, a101, e04, f67, snap_rowD (e := e_api_Cmd) (el := 55) (fz := false), f71, e77, f76, f79, e85, f84, f88]
                       · simp [a91, a98, a99, c87, a100, a101] at c70
                     · simp [a91, a98, a99, c87, a100] at c70
            · rw [if_neg c87] at h
              rw [Bool.not_eq_true] at c87
              cases h103 : fget p1.Cells (isub .i64 (flen p1.Cells) 1) with
              | none => (rw [h103] at h; cases h)
              | some v104 =>
               simp only [h103] at h
               have f102 := iaddr_F (e := e_api_Cell) h103
               cases h
               refine ⟨?_, by first | exact ⟨_, rfl⟩ | exact ⟨_, by assumption⟩⟩
               refine FC_byref (lf := lf107) rfl rfl rfl ?_
               simp only [lf107, lc107]
               rcases tof (igt (flen p1.Cells) 0) with a105 | a105
               · rcases tof (ilt p1.Speed 1) with a106 | a106
                 · simp [a105, a106] at c1
                 · rcases tof (igt p1.Speed 1048576) with a107 | a107
                   · simp [a105, a106, a107] at c1
                   · rcases tof (ieq (flen p1.Cells) 0) with a108 | a108
                     · simp [a105, a106, a107, a108] at c59
                     · rcases tof p0.Bad with a109 | a109
                       · simp [a105, a106, a107, a108, a109] at c59
                       · simp [a105, a106, a107, a108, a109, c87] at c70
               · rcases tof (ieq (flen p1.Cells) 0) with a110 | a110
                 · simp [a105, a110] at c59
                 · rcases tof p0.Bad with a111 | a111
                   · simp [a105, a110, a111] at c59
                   · simp [a105, a110, a111, c87] at c70
      · rw [if_neg c70] at h
        rw [Bool.not_eq_true] at c70
        cases h112 : t_additiveref40_state_move (⟨p0.S, p0.At, p0.Cells, p0.Feed, (FS.lst le04), p0.Bad⟩ : additiveref40_state) p1 p1.Cells 0 with
        | none => (rw [h112] at h; cases h)
        | some v113 =>
         simp only [h112] at h
         obtain ⟨f114, ⟨l116, e115⟩⟩ := t_additiveref40_state_move_okO rfl h112
         simp only [e115] at f114
         try simp only [e115] at h
         try simp only [fset_len, encF_nil, fcase_nil, fcase_lst, fcase_fsnoc, fcase_fapp, fcase_fset, fcase_frep, fcase_flit, fcase_flst] at f114
         try simp only [fcase_nil, fcase_lst, fcase_fsnoc, fcase_fapp, fcase_fset, fcase_frep, fcase_flit, fcase_flst] at f114
         by_cases c117 : (ieq p1.Kind 3) = true
         · rw [if_pos c117] at h
           cases h119 : fget p1.Cells (isub .i64 (flen p1.Cells) 1) with
           | none => (rw [h119] at h; cases h)
           | some v120 =>
            simp only [h119] at h
            have f118 := iaddr_F (e := e_api_Cell) h119
            cases h
            refine ⟨?_, by first | exact ⟨_, rfl⟩ | exact ⟨_, by assumption⟩⟩
            refine FC_byref (lf := lf107) rfl rfl rfl ?_
            simp only [lf107, lc107]
            rcases tof (igt (flen p1.Cells) 0) with a121 | a121
            · rcases tof (ilt p1.Speed 1) with a122 | a122
              · simp [a121, a122] at c1
              · rcases tof (igt p1.Speed 1048576) with a123 | a123
                · simp [a121, a122, a123] at c1
                · rcases tof (ieq (flen p1.Cells) 0) with a124 | a124
                  · simp [a121, a122, a123, a124] at c59
                  · rcases tof p0.Bad with a125 | a125
                    · simp [a121, a122, a123, a124, a125] at c59
                    · rcases tof (ieq (((v69.getD (⟨0, 0⟩ : api_Cell))).X) p0.At.X) with a126 | a126
                      · rcases tof (ieq (((v69.getD (⟨0, 0⟩ : api_Cell))).Y) p0.At.Y) with a127 | a127
                        · simp [a121, a122, a123, a124, a125, c117, a126, a127] at c70
                        · try simp only [a121, a122, a123, a124, a125, c117, a126, a127] at f114
                          simp (maxSteps := 4000000) [a121, a122, a123, a124, a125, c117, a126, a127, e04, f67, e115, f114, f118]
                      · try simp only [a121, a122, a123, a124, a125, c117, a126] at f114
                        simp (maxSteps := 4000000) [a121, a122, a123, a124, a125, c117, a126, e04, f67, e115, f114, f118]
            · rcases tof (ieq (flen p1.Cells) 0) with a128 | a128
              · simp [a121, a128] at c59
              · rcases tof p0.Bad with a129 | a129
                · simp [a121, a128, a129] at c59
                · rcases tof (ieq (((v69.getD (⟨0, 0⟩ : api_Cell))).X) p0.At.X) with a130 | a130
                  · rcases tof (ieq (((v69.getD (⟨0, 0⟩ : api_Cell))).Y) p0.At.Y) with a131 | a131
                    · simp [a121, a128, a129, c117, a130, a131] at c70
                    · try simp only [a121, a128, a129, c117, a130, a131] at f114
                      simp (maxSteps := 4000000) [a121, a128, a129, c117, a130, a131, e04, f67, e115, f114, f118]
                  · try simp only [a121, a128, a129, c117, a130] at f114
                    simp (maxSteps := 4000000) [a121, a128, a129, c117, a130, e04, f67, e115, f114, f118]
         · rw [if_neg c117] at h
           rw [Bool.not_eq_true] at c117
           cases h133 : fget p1.Cells (isub .i64 (flen p1.Cells) 1) with
           | none => (rw [h133] at h; cases h)
           | some v134 =>
            simp only [h133] at h
            have f132 := iaddr_F (e := e_api_Cell) h133
            cases h
            refine ⟨?_, by first | exact ⟨_, rfl⟩ | exact ⟨_, by assumption⟩⟩
            refine FC_byref (lf := lf107) rfl rfl rfl ?_
            simp only [lf107, lc107]
            rcases tof (igt (flen p1.Cells) 0) with a135 | a135
            · rcases tof (ilt p1.Speed 1) with a136 | a136
              · simp [a135, a136] at c1
              · rcases tof (igt p1.Speed 1048576) with a137 | a137
                · simp [a135, a136, a137] at c1
                · rcases tof (ieq (flen p1.Cells) 0) with a138 | a138
                  · simp [a135, a136, a137, a138] at c59
                  · rcases tof p0.Bad with a139 | a139
                    · simp [a135, a136, a137, a138, a139] at c59
                    · try simp only [a135, a136, a137, a138, a139, c117] at f114
                      simp (maxSteps := 4000000) [a135, a136, a137, a138, a139, c117, e04, f67, e115, f114, f132]
            · rcases tof (ieq (flen p1.Cells) 0) with a140 | a140
              · simp [a135, a140] at c59
              · rcases tof p0.Bad with a141 | a141
                · simp [a135, a140, a141] at c59
                · try simp only [a135, a140, a141, c117] at f114
                  simp (maxSteps := 4000000) [a135, a140, a141, c117, e04, f67, e115, f114, f132]

/-! additiveref40.state).op -/
attribute [simp] c74_0 c74_1 c74_2 c74_3 c74_4 c74_5 c74_6 c74_7 c74_8 c74_9 c74_10 c74_11 c74_12 c74_13
def t_additiveref40_state_op (p0 : additiveref40_state) (p1 : api_Op) (p2 : Int) : Option additiveref40_state := (if (ieq p1.Kind 1) = true then (match t_additiveref40_state_add (⟨p0.S, p0.At, p0.Cells, p0.Feed, p0.Out, p0.Bad⟩ : additiveref40_state) (⟨0, 4, 0, 0, p1.Z, 0, 0, 0⟩ : api_Cmd) p0.S.Travel with
 | none => none
 | some v3 => some (⟨v3.S, v3.At, v3.Cells, v3.Feed, v3.Out, v3.Bad⟩ : additiveref40_state))
 else (if (ieq p1.Kind 2) = true then (match t_additiveref40_state_path (⟨p0.S, p0.At, p0.Cells, p0.Feed, p0.Out, p0.Bad⟩ : additiveref40_state) p1 with
 | none => none
 | some v7 => some (⟨v7.S, v7.At, v7.Cells, v7.Feed, v7.Out, v7.Bad⟩ : additiveref40_state))
 else (if (ieq p1.Kind 3) = true then (match t_additiveref40_state_path (⟨p0.S, p0.At, p0.Cells, p0.Feed, p0.Out, p0.Bad⟩ : additiveref40_state) p1 with
 | none => none
 | some v11 => some (⟨v11.S, v11.At, v11.Cells, v11.Feed, v11.Out, v11.Bad⟩ : additiveref40_state))
 else (if (ieq p1.Kind 4) = true then (match t_additiveref40_state_add (⟨p0.S, p0.At, p0.Cells, p0.Feed, p0.Out, p0.Bad⟩ : additiveref40_state) (⟨1, 8, 0, 0, 0, p2, 0, 0⟩ : api_Cmd) 0 with
 | none => none
 | some v15 => some (⟨v15.S, v15.At, v15.Cells, v15.Feed, v15.Out, v15.Bad⟩ : additiveref40_state))
 else (if (ieq p1.Kind 5) = true then (match t_additiveref40_state_add (⟨p0.S, p0.At, p0.Cells, p0.Feed, p0.Out, p0.Bad⟩ : additiveref40_state) (⟨1, 8, 0, 0, 0, p2, 0, 0⟩ : api_Cmd) 0 with
 | none => none
 | some v19 => some (⟨v19.S, v19.At, v19.Cells, v19.Feed, v19.Out, v19.Bad⟩ : additiveref40_state))
 else (if (ieq p1.Kind 6) = true then (if (ieq p1.Speed 0) = true then (match t_additiveref40_state_add (⟨p0.S, p0.At, p0.Cells, p0.Feed, p0.Out, p0.Bad⟩ : additiveref40_state) (⟨1107, 0, 0, 0, 0, 0, 0, 0⟩ : api_Cmd) 0 with
 | none => none
 | some v24 => some (⟨v24.S, v24.At, v24.Cells, v24.Feed, v24.Out, v24.Bad⟩ : additiveref40_state))
 else (match t_additiveref40_state_add (⟨p0.S, p0.At, p0.Cells, p0.Feed, p0.Out, p0.Bad⟩ : additiveref40_state) (⟨1106, 32, 0, 0, 0, 0, 0, p1.Speed⟩ : api_Cmd) 0 with
 | none => none
 | some v27 => some (⟨v27.S, v27.At, v27.Cells, v27.Feed, v27.Out, v27.Bad⟩ : additiveref40_state)))
 else some (⟨p0.S, p0.At, p0.Cells, p0.Feed, p0.Out, p0.Bad⟩ : additiveref40_state)))))))
theorem t_additiveref40_state_op_okN {p0 : additiveref40_state} {p1 : api_Op} {p2 : Int} (e04 : p0.Out = FS.nil) {r : additiveref40_state} (h : t_additiveref40_state_op p0 p1 p2 = some r) : FC env 74 [.ptr 0 0 0, .agg [.int .i64 p1.Kind, .int .i64 p1.Role, .int .i64 p1.Layer, .int .i64 p1.Z, .int .i64 p1.Speed, encF e_api_Cell p1.Cells], .int .i64 p2] (some (hl [(0, .box 0 [.int .i64 p0.S.Pitch, .int .i64 p0.S.Height, .int .i64 p0.S.Walls, .int .i64 p0.S.Top, .int .i64 p0.S.Bottom, .int .i64 p0.S.Pattern, .int .i64 p0.S.Spacing, .bool p0.S.Support, .int .i64 p0.S.Reach, .int .i64 p0.S.Gap, .int .i64 p0.S.Brim, .int .i64 p0.S.Skirt, .int .i64 p0.S.Drop, .int .i64 p0.S.Feed, .int .i64 p0.S.Travel, .int .i64 p0.S.Retract, .int .i64 p0.S.MinTime, .int .i64 p0.S.MinFeed, .int .i64 p0.S.Nozzle, .int .i64 p0.S.Bed, .int .i64 p0.At.X, .int .i64 p0.At.Y, .int .i64 p0.Cells, .int .i64 p0.Feed, .nils, .bool p0.Bad])], 0)) = some (.tup [], (fcase r.Out (hl [(0, .box 0 [.int .i64 r.S.Pitch, .int .i64 r.S.Height, .int .i64 r.S.Walls, .int .i64 r.S.Top, .int .i64 r.S.Bottom, .int .i64 r.S.Pattern, .int .i64 r.S.Spacing, .bool r.S.Support, .int .i64 r.S.Reach, .int .i64 r.S.Gap, .int .i64 r.S.Brim, .int .i64 r.S.Skirt, .int .i64 r.S.Drop, .int .i64 r.S.Feed, .int .i64 r.S.Travel, .int .i64 r.S.Retract, .int .i64 r.S.MinTime, .int .i64 r.S.MinFeed, .int .i64 r.S.Nozzle, .int .i64 r.S.Bed, .int .i64 r.At.X, .int .i64 r.At.Y, .int .i64 r.Cells, .int .i64 r.Feed, .nils, .bool r.Bad])])
  (fun l0 => hl [(0, .box 0 [.int .i64 r.S.Pitch, .int .i64 r.S.Height, .int .i64 r.S.Walls, .int .i64 r.S.Top, .int .i64 r.S.Bottom, .int .i64 r.S.Pattern, .int .i64 r.S.Spacing, .bool r.S.Support, .int .i64 r.S.Reach, .int .i64 r.S.Gap, .int .i64 r.S.Brim, .int .i64 r.S.Skirt, .int .i64 r.S.Drop, .int .i64 r.S.Feed, .int .i64 r.S.Travel, .int .i64 r.S.Retract, .int .i64 r.S.MinTime, .int .i64 r.S.MinFeed, .int .i64 r.S.Nozzle, .int .i64 r.S.Bed, .int .i64 r.At.X, .int .i64 r.At.Y, .int .i64 r.Cells, .int .i64 r.Feed, .arr 1000024 0 0 l0.l.length, .bool r.Bad]), (1000024, .arr 0 8 55 (cellsE e_api_Cmd l0.l) false)]))) := by
 unfold t_additiveref40_state_op at h
 simp only [e04, flen_nil] at h
 by_cases c1 : (ieq p1.Kind 1) = true
 · rw [if_pos c1] at h
   cases h2 : t_additiveref40_state_add (⟨p0.S, p0.At, p0.Cells, p0.Feed, (FS.nil : (FS api_Cmd)), p0.Bad⟩ : additiveref40_state) (⟨0, 4, 0, 0, p1.Z, 0, 0, 0⟩ : api_Cmd) p0.S.Travel with
   | none => (rw [h2] at h; cases h)
   | some v3 =>
    simp only [h2] at h
    obtain ⟨f4, ⟨l6, e5⟩⟩ := t_additiveref40_state_add_okN rfl h2
    simp only [e5] at f4
    try simp only [e5] at h
    try simp only [fset_len, encF_nil, fcase_nil, fcase_lst, fcase_fsnoc, fcase_fapp, fcase_fset, fcase_frep, fcase_flit, fcase_flst] at f4
    try simp only [fcase_nil, fcase_lst, fcase_fsnoc, fcase_fapp, fcase_fset, fcase_frep, fcase_flit, fcase_flst] at f4
    cases h
    refine FC_byref (lf := lf74) rfl rfl rfl ?_
    simp only [lf74, lc74]
    try simp only [c1] at f4
    simp (maxSteps := 4000000) [c1, e04, e5, f4]
 · rw [if_neg c1] at h
   rw [Bool.not_eq_true] at c1
   by_cases c7 : (ieq p1.Kind 2) = true
   · rw [if_pos c7] at h
     cases h8 : t_additiveref40_state_path (⟨p0.S, p0.At, p0.Cells, p0.Feed, (FS.nil : (FS api_Cmd)), p0.Bad⟩ : additiveref40_state) p1 with
     | none => (rw [h8] at h; cases h)
     | some v9 =>
      simp only [h8] at h
      have f10 := t_additiveref40_state_path_okN rfl h8
      try simp only [fset_len, encF_nil, fcase_nil, fcase_lst, fcase_fsnoc, fcase_fapp, fcase_fset, fcase_frep, fcase_flit, fcase_flst] at f10
      cases e12 : v9.Out with
      | nil =>
       try simp only [e12, flen_nil] at h
       simp only [e12, flen_nil, fcase_nil, fcase_lst] at f10
       cases h
       refine FC_byref (lf := lf74) rfl rfl rfl ?_
       simp only [lf74, lc74]
       try simp only [c1, c7] at f10
       simp (maxSteps := 4000000) [c1, c7, e04, f10, e12]
      | lst l11 =>
       try simp only [e12] at h
       simp only [e12, flen_nil, fcase_nil, fcase_lst] at f10
       cases h
       refine FC_byref (lf := lf74) rfl rfl rfl ?_
       simp only [lf74, lc74]
       try simp only [c1, c7] at f10
       simp (maxSteps := 4000000) [c1, c7, e04, f10, e12]
   · rw [if_neg c7] at h
     rw [Bool.not_eq_true] at c7
     by_cases c13 : (ieq p1.Kind 3) = true
     · rw [if_pos c13] at h
       cases h14 : t_additiveref40_state_path (⟨p0.S, p0.At, p0.Cells, p0.Feed, (FS.nil : (FS api_Cmd)), p0.Bad⟩ : additiveref40_state) p1 with
       | none => (rw [h14] at h; cases h)
       | some v15 =>
        simp only [h14] at h
        have f16 := t_additiveref40_state_path_okN rfl h14
        try simp only [fset_len, encF_nil, fcase_nil, fcase_lst, fcase_fsnoc, fcase_fapp, fcase_fset, fcase_frep, fcase_flit, fcase_flst] at f16
        cases e18 : v15.Out with
        | nil =>
         try simp only [e18, flen_nil] at h
         simp only [e18, flen_nil, fcase_nil, fcase_lst] at f16
         cases h
         refine FC_byref (lf := lf74) rfl rfl rfl ?_
         simp only [lf74, lc74]
         try simp only [c1, c7, c13] at f16
         simp (maxSteps := 4000000) [c1, c7, c13, e04, f16, e18]
        | lst l17 =>
         try simp only [e18] at h
         simp only [e18, flen_nil, fcase_nil, fcase_lst] at f16
         cases h
         refine FC_byref (lf := lf74) rfl rfl rfl ?_
         simp only [lf74, lc74]
         try simp only [c1, c7, c13] at f16
         simp (maxSteps := 4000000) [c1, c7, c13, e04, f16, e18]
     · rw [if_neg c13] at h
       rw [Bool.not_eq_true] at c13
       by_cases c19 : (ieq p1.Kind 4) = true
       · rw [if_pos c19] at h
         cases h20 : t_additiveref40_state_add (⟨p0.S, p0.At, p0.Cells, p0.Feed, (FS.nil : (FS api_Cmd)), p0.Bad⟩ : additiveref40_state) (⟨1, 8, 0, 0, 0, p2, 0, 0⟩ : api_Cmd) 0 with
         | none => (rw [h20] at h; cases h)
         | some v21 =>
          simp only [h20] at h
          obtain ⟨f22, ⟨l24, e23⟩⟩ := t_additiveref40_state_add_okN rfl h20
          simp only [e23] at f22
          try simp only [e23] at h
          try simp only [fset_len, encF_nil, fcase_nil, fcase_lst, fcase_fsnoc, fcase_fapp, fcase_fset, fcase_frep, fcase_flit, fcase_flst] at f22
          try simp only [fcase_nil, fcase_lst, fcase_fsnoc, fcase_fapp, fcase_fset, fcase_frep, fcase_flit, fcase_flst] at f22
          cases h
          refine FC_byref (lf := lf74) rfl rfl rfl ?_
          simp only [lf74, lc74]
          try simp only [c1, c7, c13, c19] at f22
          simp (maxSteps := 4000000) [c1, c7, c13, c19, e04, e23, f22]
       · rw [if_neg c19] at h
         rw [Bool.not_eq_true] at c19
         by_cases c25 : (ieq p1.Kind 5) = true
         · rw [if_pos c25] at h
           cases h26 : t_additiveref40_state_add (⟨p0.S, p0.At, p0.Cells, p0.Feed, (FS.nil : (FS api_Cmd)), p0.Bad⟩ : additiveref40_state) (⟨1, 8, 0, 0, 0, p2, 0, 0⟩ : api_Cmd) 0 with
           | none => (rw [h26] at h; cases h)
           | some v27 =>
            simp only [h26] at h
            obtain ⟨f28, ⟨l30, e29⟩⟩ := t_additiveref40_state_add_okN rfl h26
            simp only [e29] at f28
            try simp only [e29] at h
            try simp only [fset_len, encF_nil, fcase_nil, fcase_lst, fcase_fsnoc, fcase_fapp, fcase_fset, fcase_frep, fcase_flit, fcase_flst] at f28
            try simp only [fcase_nil, fcase_lst, fcase_fsnoc, fcase_fapp, fcase_fset, fcase_frep, fcase_flit, fcase_flst] at f28
            cases h
            refine FC_byref (lf := lf74) rfl rfl rfl ?_
            simp only [lf74, lc74]
            try simp only [c1, c7, c13, c19, c25] at f28
            simp (maxSteps := 4000000) [c1, c7, c13, c19, c25, e04, e29, f28]
         · rw [if_neg c25] at h
           rw [Bool.not_eq_true] at c25
           by_cases c31 : (ieq p1.Kind 6) = true
           · rw [if_pos c31] at h
             by_cases c32 : (ieq p1.Speed 0) = true
             · rw [if_pos c32] at h
               cases h33 : t_additiveref40_state_add (⟨p0.S, p0.At, p0.Cells, p0.Feed, (FS.nil : (FS api_Cmd)), p0.Bad⟩ : additiveref40_state) (⟨1107, 0, 0, 0, 0, 0, 0, 0⟩ : api_Cmd) 0 with
               | none => (rw [h33] at h; cases h)
               | some v34 =>
                simp only [h33] at h
                obtain ⟨f35, ⟨l37, e36⟩⟩ := t_additiveref40_state_add_okN rfl h33
                simp only [e36] at f35
                try simp only [e36] at h
                try simp only [fset_len, encF_nil, fcase_nil, fcase_lst, fcase_fsnoc, fcase_fapp, fcase_fset, fcase_frep, fcase_flit, fcase_flst] at f35
                try simp only [fcase_nil, fcase_lst, fcase_fsnoc, fcase_fapp, fcase_fset, fcase_frep, fcase_flit, fcase_flst] at f35
                cases h
                refine FC_byref (lf := lf74) rfl rfl rfl ?_
                simp only [lf74, lc74]
                try simp only [c1, c7, c13, c19, c25, c31, c32] at f35
                simp (maxSteps := 4000000) [c1, c7, c13, c19, c25, c31, c32, e04, e36, f35]
             · rw [if_neg c32] at h
               rw [Bool.not_eq_true] at c32
               cases h38 : t_additiveref40_state_add (⟨p0.S, p0.At, p0.Cells, p0.Feed, (FS.nil : (FS api_Cmd)), p0.Bad⟩ : additiveref40_state) (⟨1106, 32, 0, 0, 0, 0, 0, p1.Speed⟩ : api_Cmd) 0 with
               | none => (rw [h38] at h; cases h)
               | some v39 =>
                simp only [h38] at h
                obtain ⟨f40, ⟨l42, e41⟩⟩ := t_additiveref40_state_add_okN rfl h38
                simp only [e41] at f40
                try simp only [e41] at h
                try simp only [fset_len, encF_nil, fcase_nil, fcase_lst, fcase_fsnoc, fcase_fapp, fcase_fset, fcase_frep, fcase_flit, fcase_flst] at f40
                try simp only [fcase_nil, fcase_lst, fcase_fsnoc, fcase_fapp, fcase_fset, fcase_frep, fcase_flit, fcase_flst] at f40
                cases h
                refine FC_byref (lf := lf74) rfl rfl rfl ?_
                simp only [lf74, lc74]
                try simp only [c1, c7, c13, c19, c25, c31, c32] at f40
                simp (maxSteps := 4000000) [c1, c7, c13, c19, c25, c31, c32, e04, e41, f40]
           · rw [if_neg c31] at h
             rw [Bool.not_eq_true] at c31
             cases h
             refine FC_byref (lf := lf74) rfl rfl rfl ?_
             simp only [lf74, lc74]
             simp (maxSteps := 4000000) [c1, c7, c13, c19, c25, c31, e04]
theorem t_additiveref40_state_op_okO {p0 : additiveref40_state} {p1 : api_Op} {p2 : Int} {le04 : List api_Cmd} (e04 : p0.Out = FS.lst le04) {r : additiveref40_state} (h : t_additiveref40_state_op p0 p1 p2 = some r) : FC env 74 [.ptr 0 0 0, .agg [.int .i64 p1.Kind, .int .i64 p1.Role, .int .i64 p1.Layer, .int .i64 p1.Z, .int .i64 p1.Speed, encF e_api_Cell p1.Cells], .int .i64 p2] (some (hl [(0, .box 0 [.int .i64 p0.S.Pitch, .int .i64 p0.S.Height, .int .i64 p0.S.Walls, .int .i64 p0.S.Top, .int .i64 p0.S.Bottom, .int .i64 p0.S.Pattern, .int .i64 p0.S.Spacing, .bool p0.S.Support, .int .i64 p0.S.Reach, .int .i64 p0.S.Gap, .int .i64 p0.S.Brim, .int .i64 p0.S.Skirt, .int .i64 p0.S.Drop, .int .i64 p0.S.Feed, .int .i64 p0.S.Travel, .int .i64 p0.S.Retract, .int .i64 p0.S.MinTime, .int .i64 p0.S.MinFeed, .int .i64 p0.S.Nozzle, .int .i64 p0.S.Bed, .int .i64 p0.At.X, .int .i64 p0.At.Y, .int .i64 p0.Cells, .int .i64 p0.Feed, .arr 1000024 0 0 p0.Out.l.length, .bool p0.Bad]), (1000024, .arr 0 8 55 (cellsE e_api_Cmd p0.Out.l) false)], 0)) = some (.tup [], hl [(0, .box 0 [.int .i64 r.S.Pitch, .int .i64 r.S.Height, .int .i64 r.S.Walls, .int .i64 r.S.Top, .int .i64 r.S.Bottom, .int .i64 r.S.Pattern, .int .i64 r.S.Spacing, .bool r.S.Support, .int .i64 r.S.Reach, .int .i64 r.S.Gap, .int .i64 r.S.Brim, .int .i64 r.S.Skirt, .int .i64 r.S.Drop, .int .i64 r.S.Feed, .int .i64 r.S.Travel, .int .i64 r.S.Retract, .int .i64 r.S.MinTime, .int .i64 r.S.MinFeed, .int .i64 r.S.Nozzle, .int .i64 r.S.Bed, .int .i64 r.At.X, .int .i64 r.At.Y, .int .i64 r.Cells, .int .i64 r.Feed, .arr 1000024 0 0 r.Out.l.length, .bool r.Bad]), (1000024, .arr 0 8 55 (cellsE e_api_Cmd r.Out.l) false)]) ∧ ∃ l, r.Out = FS.lst l := by
 unfold t_additiveref40_state_op at h
 simp only [e04, flen_nil] at h
 by_cases c1 : (ieq p1.Kind 1) = true
 · rw [if_pos c1] at h
   cases h2 : t_additiveref40_state_add (⟨p0.S, p0.At, p0.Cells, p0.Feed, (FS.lst le04), p0.Bad⟩ : additiveref40_state) (⟨0, 4, 0, 0, p1.Z, 0, 0, 0⟩ : api_Cmd) p0.S.Travel with
   | none => (rw [h2] at h; cases h)
   | some v3 =>
    simp only [h2] at h
    obtain ⟨f4, ⟨l6, e5⟩⟩ := t_additiveref40_state_add_okO rfl h2
    simp only [e5] at f4
    try simp only [e5] at h
    try simp only [fset_len, encF_nil, fcase_nil, fcase_lst, fcase_fsnoc, fcase_fapp, fcase_fset, fcase_frep, fcase_flit, fcase_flst] at f4
    try simp only [fcase_nil, fcase_lst, fcase_fsnoc, fcase_fapp, fcase_fset, fcase_frep, fcase_flit, fcase_flst] at f4
    cases h
    refine ⟨?_, by first | exact ⟨_, rfl⟩ | exact ⟨_, by assumption⟩⟩
    refine FC_byref (lf := lf74) rfl rfl rfl ?_
    simp only [lf74, lc74]
    try simp only [c1] at f4
    simp (maxSteps := 4000000) [c1, e04, e5, f4]
 · rw [if_neg c1] at h
   rw [Bool.not_eq_true] at c1
   by_cases c7 : (ieq p1.Kind 2) = true
   · rw [if_pos c7] at h
     cases h8 : t_additiveref40_state_path (⟨p0.S, p0.At, p0.Cells, p0.Feed, (FS.lst le04), p0.Bad⟩ : additiveref40_state) p1 with
     | none => (rw [h8] at h; cases h)
     | some v9 =>
      simp only [h8] at h
      obtain ⟨f10, ⟨l12, e11⟩⟩ := t_additiveref40_state_path_okO rfl h8
      simp only [e11] at f10
      try simp only [e11] at h
      try simp only [fset_len, encF_nil, fcase_nil, fcase_lst, fcase_fsnoc, fcase_fapp, fcase_fset, fcase_frep, fcase_flit, fcase_flst] at f10
      try simp only [fcase_nil, fcase_lst, fcase_fsnoc, fcase_fapp, fcase_fset, fcase_frep, fcase_flit, fcase_flst] at f10
      cases h
      refine ⟨?_, by first | exact ⟨_, rfl⟩ | exact ⟨_, by assumption⟩⟩
      refine FC_byref (lf := lf74) rfl rfl rfl ?_
      simp only [lf74, lc74]
      try simp only [c1, c7] at f10
      simp (maxSteps := 4000000) [c1, c7, e04, e11, f10]
   · rw [if_neg c7] at h
     rw [Bool.not_eq_true] at c7
     by_cases c13 : (ieq p1.Kind 3) = true
     · rw [if_pos c13] at h
       cases h14 : t_additiveref40_state_path (⟨p0.S, p0.At, p0.Cells, p0.Feed, (FS.lst le04), p0.Bad⟩ : additiveref40_state) p1 with
       | none => (rw [h14] at h; cases h)
       | some v15 =>
        simp only [h14] at h
        obtain ⟨f16, ⟨l18, e17⟩⟩ := t_additiveref40_state_path_okO rfl h14
        simp only [e17] at f16
        try simp only [e17] at h
        try simp only [fset_len, encF_nil, fcase_nil, fcase_lst, fcase_fsnoc, fcase_fapp, fcase_fset, fcase_frep, fcase_flit, fcase_flst] at f16
        try simp only [fcase_nil, fcase_lst, fcase_fsnoc, fcase_fapp, fcase_fset, fcase_frep, fcase_flit, fcase_flst] at f16
        cases h
        refine ⟨?_, by first | exact ⟨_, rfl⟩ | exact ⟨_, by assumption⟩⟩
        refine FC_byref (lf := lf74) rfl rfl rfl ?_
        simp only [lf74, lc74]
        try simp only [c1, c7, c13] at f16
        simp (maxSteps := 4000000) [c1, c7, c13, e04, e17, f16]
     · rw [if_neg c13] at h
       rw [Bool.not_eq_true] at c13
       by_cases c19 : (ieq p1.Kind 4) = true
       · rw [if_pos c19] at h
         cases h20 : t_additiveref40_state_add (⟨p0.S, p0.At, p0.Cells, p0.Feed, (FS.lst le04), p0.Bad⟩ : additiveref40_state) (⟨1, 8, 0, 0, 0, p2, 0, 0⟩ : api_Cmd) 0 with
         | none => (rw [h20] at h; cases h)
         | some v21 =>
          simp only [h20] at h
          obtain ⟨f22, ⟨l24, e23⟩⟩ := t_additiveref40_state_add_okO rfl h20
          simp only [e23] at f22
          try simp only [e23] at h
          try simp only [fset_len, encF_nil, fcase_nil, fcase_lst, fcase_fsnoc, fcase_fapp, fcase_fset, fcase_frep, fcase_flit, fcase_flst] at f22
          try simp only [fcase_nil, fcase_lst, fcase_fsnoc, fcase_fapp, fcase_fset, fcase_frep, fcase_flit, fcase_flst] at f22
          cases h
          refine ⟨?_, by first | exact ⟨_, rfl⟩ | exact ⟨_, by assumption⟩⟩
          refine FC_byref (lf := lf74) rfl rfl rfl ?_
          simp only [lf74, lc74]
          try simp only [c1, c7, c13, c19] at f22
          simp (maxSteps := 4000000) [c1, c7, c13, c19, e04, e23, f22]
       · rw [if_neg c19] at h
         rw [Bool.not_eq_true] at c19
         by_cases c25 : (ieq p1.Kind 5) = true
         · rw [if_pos c25] at h
           cases h26 : t_additiveref40_state_add (⟨p0.S, p0.At, p0.Cells, p0.Feed, (FS.lst le04), p0.Bad⟩ : additiveref40_state) (⟨1, 8, 0, 0, 0, p2, 0, 0⟩ : api_Cmd) 0 with
           | none => (rw [h26] at h; cases h)
           | some v27 =>
            simp only [h26] at h
            obtain ⟨f28, ⟨l30, e29⟩⟩ := t_additiveref40_state_add_okO rfl h26
            simp only [e29] at f28
            try simp only [e29] at h
            try simp only [fset_len, encF_nil, fcase_nil, fcase_lst, fcase_fsnoc, fcase_fapp, fcase_fset, fcase_frep, fcase_flit, fcase_flst] at f28
            try simp only [fcase_nil, fcase_lst, fcase_fsnoc, fcase_fapp, fcase_fset, fcase_frep, fcase_flit, fcase_flst] at f28
            cases h
            refine ⟨?_, by first | exact ⟨_, rfl⟩ | exact ⟨_, by assumption⟩⟩
            refine FC_byref (lf := lf74) rfl rfl rfl ?_
            simp only [lf74, lc74]
            try simp only [c1, c7, c13, c19, c25] at f28
            simp (maxSteps := 4000000) [c1, c7, c13, c19, c25, e04, e29, f28]
         · rw [if_neg c25] at h
           rw [Bool.not_eq_true] at c25
           by_cases c31 : (ieq p1.Kind 6) = true
           · rw [if_pos c31] at h
             by_cases c32 : (ieq p1.Speed 0) = true
             · rw [if_pos c32] at h
               cases h33 : t_additiveref40_state_add (⟨p0.S, p0.At, p0.Cells, p0.Feed, (FS.lst le04), p0.Bad⟩ : additiveref40_state) (⟨1107, 0, 0, 0, 0, 0, 0, 0⟩ : api_Cmd) 0 with
               | none => (rw [h33] at h; cases h)
               | some v34 =>
                simp only [h33] at h
                obtain ⟨f35, ⟨l37, e36⟩⟩ := t_additiveref40_state_add_okO rfl h33
                simp only [e36] at f35
                try simp only [e36] at h
                try simp only [fset_len, encF_nil, fcase_nil, fcase_lst, fcase_fsnoc, fcase_fapp, fcase_fset, fcase_frep, fcase_flit, fcase_flst] at f35
                try simp only [fcase_nil, fcase_lst, fcase_fsnoc, fcase_fapp, fcase_fset, fcase_frep, fcase_flit, fcase_flst] at f35
                cases h
                refine ⟨?_, by first | exact ⟨_, rfl⟩ | exact ⟨_, by assumption⟩⟩
                refine FC_byref (lf := lf74) rfl rfl rfl ?_
                simp only [lf74, lc74]
                try simp only [c1, c7, c13, c19, c25, c31, c32] at f35
                simp (maxSteps := 4000000) [c1, c7, c13, c19, c25, c31, c32, e04, e36, f35]
             · rw [if_neg c32] at h
               rw [Bool.not_eq_true] at c32
               cases h38 : t_additiveref40_state_add (⟨p0.S, p0.At, p0.Cells, p0.Feed, (FS.lst le04), p0.Bad⟩ : additiveref40_state) (⟨1106, 32, 0, 0, 0, 0, 0, p1.Speed⟩ : api_Cmd) 0 with
               | none => (rw [h38] at h; cases h)
               | some v39 =>
                simp only [h38] at h
                obtain ⟨f40, ⟨l42, e41⟩⟩ := t_additiveref40_state_add_okO rfl h38
                simp only [e41] at f40
                try simp only [e41] at h
                try simp only [fset_len, encF_nil, fcase_nil, fcase_lst, fcase_fsnoc, fcase_fapp, fcase_fset, fcase_frep, fcase_flit, fcase_flst] at f40
                try simp only [fcase_nil, fcase_lst, fcase_fsnoc, fcase_fapp, fcase_fset, fcase_frep, fcase_flit, fcase_flst] at f40
                cases h
                refine ⟨?_, by first | exact ⟨_, rfl⟩ | exact ⟨_, by assumption⟩⟩
                refine FC_byref (lf := lf74) rfl rfl rfl ?_
                simp only [lf74, lc74]
                try simp only [c1, c7, c13, c19, c25, c31, c32] at f40
                simp (maxSteps := 4000000) [c1, c7, c13, c19, c25, c31, c32, e04, e41, f40]
           · rw [if_neg c31] at h
             rw [Bool.not_eq_true] at c31
             cases h
             refine ⟨?_, by first | exact ⟨_, rfl⟩ | exact ⟨_, by assumption⟩⟩
             refine FC_byref (lf := lf74) rfl rfl rfl ?_
             simp only [lf74, lc74]
             simp (maxSteps := 4000000) [c1, c7, c13, c19, c25, c31, e04]

/-! additiveref40.Commands -/
attribute [simp] c37_0 c37_1 c37_2 c37_3 c37_4 c37_5 c37_6 c37_7 c37_8 c37_9 c37_10 c37_11 c37_13 c37_14 c37_15 c37_16 c37_18
theorem c37_L0_u (Γ : Env) (ps : List Nat) (σ : St) : EC Γ ps 0 c37_L0 σ = EC Γ ps 0 (.seq (.seq (.reg false c37_8) (.cond (.t 36) .skip (.seq (.trim [0, 6, 8, 9]) (.exit 2)))) (.seq (.blk 3 (.seq (.reg false c37_9) (.cond (.t 48) (.seq (.reg false c37_10) (.seq (.trim [4, 5]) .ret)) .skip))) (.reg false c37_11))) σ := rfl
theorem c37_L1_u (Γ : Env) (ps : List Nat) (σ : St) : EC Γ ps 0 c37_L1 σ = EC Γ ps 0 (.seq (.seq (.reg false c37_6) (.cond (.t 26) .skip (.seq (.trim [8]) (.exit 0)))) (.seq (.blk 1 (.seq (.seq (.reg false c37_7) (.blk 2 (.loop [0, 6, 8, 9, 10] c37_L0))) (.seq (.reg true c37_13) (.seq (.reg false c37_14) (.cond (.t 62) (.seq (.reg false c37_15) (.seq (.trim [4, 5]) .ret)) .skip))))) (.reg false c37_16))) σ := rfl
attribute [simp ↓] c37_L0_u c37_L1_u
def t_additiveref40_Commands_L0 (k0 : (FS api_Op)) (k1 : (FS Int)) (k2 : additiveref40_state) (k3 : Int) (s : Int) : Option (LR Int (((FS api_Cmd) × Int) ⊕ Unit)) := match s with
 | s0 => (match fget k0 k3 with
 | none => none
 | some v8 => (if (ilt s0 (flen v8.Cells)) = true then (match fget v8.Cells s0 with
 | none => none
 | some v13 => (if (bnot (u_additiveref40_ok v13)) = true then some (.dn (.inl ((FS.nil : (FS api_Cmd)), 8)))
 else some (.nx (iadd .i64 s0 1))))
 else some (.dn (.inr ()))))
def t_additiveref40_Commands_L0_st (k0 : (FS api_Op)) (k1 : (FS Int)) (k2 : additiveref40_state) (k3 : Int) (s : Int) : St := match s with
 | s0 => (fcase k2.Out (⟨fr [(0, encF e_api_Op k0), (6, encF e_i64 k1), (8, .ptr 22 0 0), (9, .int .i64 k3), (10, .int .i64 s0)], hl [(22, .box 0 [.int .i64 k2.S.Pitch, .int .i64 k2.S.Height, .int .i64 k2.S.Walls, .int .i64 k2.S.Top, .int .i64 k2.S.Bottom, .int .i64 k2.S.Pattern, .int .i64 k2.S.Spacing, .bool k2.S.Support, .int .i64 k2.S.Reach, .int .i64 k2.S.Gap, .int .i64 k2.S.Brim, .int .i64 k2.S.Skirt, .int .i64 k2.S.Drop, .int .i64 k2.S.Feed, .int .i64 k2.S.Travel, .int .i64 k2.S.Retract, .int .i64 k2.S.MinTime, .int .i64 k2.S.MinFeed, .int .i64 k2.S.Nozzle, .int .i64 k2.S.Bed, .int .i64 k2.At.X, .int .i64 k2.At.Y, .int .i64 k2.Cells, .int .i64 k2.Feed, .nils, .bool k2.Bad])]⟩)
  (fun l0 => ⟨fr [(0, encF e_api_Op k0), (6, encF e_i64 k1), (8, .ptr 22 0 0), (9, .int .i64 k3), (10, .int .i64 s0)], hl [(22, .box 0 [.int .i64 k2.S.Pitch, .int .i64 k2.S.Height, .int .i64 k2.S.Walls, .int .i64 k2.S.Top, .int .i64 k2.S.Bottom, .int .i64 k2.S.Pattern, .int .i64 k2.S.Spacing, .bool k2.S.Support, .int .i64 k2.S.Reach, .int .i64 k2.S.Gap, .int .i64 k2.S.Brim, .int .i64 k2.S.Skirt, .int .i64 k2.S.Drop, .int .i64 k2.S.Feed, .int .i64 k2.S.Travel, .int .i64 k2.S.Retract, .int .i64 k2.S.MinTime, .int .i64 k2.S.MinFeed, .int .i64 k2.S.Nozzle, .int .i64 k2.S.Bed, .int .i64 k2.At.X, .int .i64 k2.At.Y, .int .i64 k2.Cells, .int .i64 k2.Feed, .arr 1022024 0 0 l0.l.length, .bool k2.Bad]), (1022024, .arr 0 8 55 (cellsE e_api_Cmd l0.l) false)]⟩))
def t_additiveref40_Commands_L0_out (k0 : (FS api_Op)) (k1 : (FS Int)) (k2 : additiveref40_state) (k3 : Int) (x : (((FS api_Cmd) × Int) ⊕ Unit)) : LE × St := match x with
 | .inl x => (.ret, ⟨fr [(4, .nils), (5, .int .i64 x.2)], hl []⟩)
 | .inr x => (fcase k2.Out (.exit 2, ⟨fr [(0, encF e_api_Op k0), (6, encF e_i64 k1), (8, .ptr 22 0 0), (9, .int .i64 k3)], hl [(22, .box 0 [.int .i64 k2.S.Pitch, .int .i64 k2.S.Height, .int .i64 k2.S.Walls, .int .i64 k2.S.Top, .int .i64 k2.S.Bottom, .int .i64 k2.S.Pattern, .int .i64 k2.S.Spacing, .bool k2.S.Support, .int .i64 k2.S.Reach, .int .i64 k2.S.Gap, .int .i64 k2.S.Brim, .int .i64 k2.S.Skirt, .int .i64 k2.S.Drop, .int .i64 k2.S.Feed, .int .i64 k2.S.Travel, .int .i64 k2.S.Retract, .int .i64 k2.S.MinTime, .int .i64 k2.S.MinFeed, .int .i64 k2.S.Nozzle, .int .i64 k2.S.Bed, .int .i64 k2.At.X, .int .i64 k2.At.Y, .int .i64 k2.Cells, .int .i64 k2.Feed, .nils, .bool k2.Bad])]⟩)
  (fun l0 => (.exit 2, ⟨fr [(0, encF e_api_Op k0), (6, encF e_i64 k1), (8, .ptr 22 0 0), (9, .int .i64 k3)], hl [(22, .box 0 [.int .i64 k2.S.Pitch, .int .i64 k2.S.Height, .int .i64 k2.S.Walls, .int .i64 k2.S.Top, .int .i64 k2.S.Bottom, .int .i64 k2.S.Pattern, .int .i64 k2.S.Spacing, .bool k2.S.Support, .int .i64 k2.S.Reach, .int .i64 k2.S.Gap, .int .i64 k2.S.Brim, .int .i64 k2.S.Skirt, .int .i64 k2.S.Drop, .int .i64 k2.S.Feed, .int .i64 k2.S.Travel, .int .i64 k2.S.Retract, .int .i64 k2.S.MinTime, .int .i64 k2.S.MinFeed, .int .i64 k2.S.Nozzle, .int .i64 k2.S.Bed, .int .i64 k2.At.X, .int .i64 k2.At.Y, .int .i64 k2.Cells, .int .i64 k2.Feed, .arr 1022024 0 0 l0.l.length, .bool k2.Bad]), (1022024, .arr 0 8 55 (cellsE e_api_Cmd l0.l) false)]⟩)))
theorem t_additiveref40_Commands_L0_ok {k0 : (FS api_Op)} {k1 : (FS Int)} {k2 : additiveref40_state} {k3 : Int} {s : Int} {r : (((FS api_Cmd) × Int) ⊕ Unit)} (h : loopT (t_additiveref40_Commands_L0 k0 k1 k2 k3) bigN s = some r) : LK env [] 0 [0, 6, 8, 9, 10] c37_L0 (some (t_additiveref40_Commands_L0_st k0 k1 k2 k3 s)) = some (t_additiveref40_Commands_L0_out k0 k1 k2 k3 r) := loop_walk (st := t_additiveref40_Commands_L0_st k0 k1 k2 k3) (out := t_additiveref40_Commands_L0_out k0 k1 k2 k3) (by
 clear h s r
 rintro s0 x h
 simp only [t_additiveref40_Commands_L0] at h
 cases e9 : k2.Out with
 | nil =>
  try simp only [e9, flen_nil] at h
  cases h11 : fget k0 k3 with
  | none => (rw [h11] at h; cases h)
  | some v12 =>
   simp only [h11] at h
   have f10 := iaddr_F (e := e_api_Op) h11
   by_cases c13 : (ilt s0 (flen v12.Cells)) = true
   · rw [if_pos c13] at h
     cases h16 : fget v12.Cells s0 with
     | none => (rw [h16] at h; cases h)
     | some v17 =>
      simp only [h16] at h
      have f15 := iaddr_F (e := e_api_Cell) h16
      have f18 := u_additiveref40_ok_ok v17
      by_cases c19 : (bnot (u_additiveref40_ok v17)) = true
      · rw [if_pos c19] at h
        cases h
        show LK env [] 0 [0, 6, 8, 9, 10] c37_L0 (some (t_additiveref40_Commands_L0_st _ _ _ _ _)) = some (t_additiveref40_Commands_L0_out _ _ _ _ _)
        simp only [t_additiveref40_Commands_L0_st, t_additiveref40_Commands_L0_out, e9]
        rw [LK_step]
        rcases tof (u_additiveref40_ok v17) with a20 | a20
        · simp [c13, a20] at c19
        · simp (maxSteps := 4000000) [c13, a20, e9, f10, f15, f18]
      · rw [if_neg c19] at h
        rw [Bool.not_eq_true] at c19
        cases h
        show LK env [] 0 [0, 6, 8, 9, 10] c37_L0 (some (t_additiveref40_Commands_L0_st _ _ _ _ _)) = LK env [] 0 [0, 6, 8, 9, 10] c37_L0 (some (t_additiveref40_Commands_L0_st _ _ _ _ _))
        simp only [t_additiveref40_Commands_L0_st, e9]
        rw [LK_step]
        rcases tof (u_additiveref40_ok v17) with a21 | a21
        · simp (maxSteps := 4000000) [c13, a21, e9, f10, f15, f18]
        · simp [c13, a21] at c19
   · rw [if_neg c13] at h
     rw [Bool.not_eq_true] at c13
     cases h
     show LK env [] 0 [0, 6, 8, 9, 10] c37_L0 (some (t_additiveref40_Commands_L0_st _ _ _ _ _)) = some (t_additiveref40_Commands_L0_out _ _ _ _ _)
     simp only [t_additiveref40_Commands_L0_st, t_additiveref40_Commands_L0_out, e9]
     rw [LK_step]
     simp (maxSteps := 4000000) [c13, e9, f10]
 | lst l8 =>
  try simp only [e9] at h
  cases h23 : fget k0 k3 with
  | none => (rw [h23] at h; cases h)
  | some v24 =>
   simp only [h23] at h
   have f22 := iaddr_F (e := e_api_Op) h23
   by_cases c25 : (ilt s0 (flen v24.Cells)) = true
   · rw [if_pos c25] at h
     cases h28 : fget v24.Cells s0 with
     | none => (rw [h28] at h; cases h)
     | some v29 =>
      simp only [h28] at h
      have f27 := iaddr_F (e := e_api_Cell) h28
      have f30 := u_additiveref40_ok_ok v29
      by_cases c31 : (bnot (u_additiveref40_ok v29)) = true
      · rw [if_pos c31] at h
        cases h
        show LK env [] 0 [0, 6, 8, 9, 10] c37_L0 (some (t_additiveref40_Commands_L0_st _ _ _ _ _)) = some (t_additiveref40_Commands_L0_out _ _ _ _ _)
        simp only [t_additiveref40_Commands_L0_st, t_additiveref40_Commands_L0_out, e9]
        rw [LK_step]
        rcases tof (u_additiveref40_ok v29) with a32 | a32
        · simp [c25, a32] at c31
        · simp (maxSteps := 4000000) [c25, a32, e9, f22, f27, f30]
      · rw [if_neg c31] at h
        rw [Bool.not_eq_true] at c31
        cases h
        show LK env [] 0 [0, 6, 8, 9, 10] c37_L0 (some (t_additiveref40_Commands_L0_st _ _ _ _ _)) = LK env [] 0 [0, 6, 8, 9, 10] c37_L0 (some (t_additiveref40_Commands_L0_st _ _ _ _ _))
        simp only [t_additiveref40_Commands_L0_st, e9]
        rw [LK_step]
        rcases tof (u_additiveref40_ok v29) with a33 | a33
        · simp (maxSteps := 4000000) [c25, a33, e9, f22, f27, f30]
        · simp [c25, a33] at c31
   · rw [if_neg c25] at h
     rw [Bool.not_eq_true] at c25
     cases h
     show LK env [] 0 [0, 6, 8, 9, 10] c37_L0 (some (t_additiveref40_Commands_L0_st _ _ _ _ _)) = some (t_additiveref40_Commands_L0_out _ _ _ _ _)
     simp only [t_additiveref40_Commands_L0_st, t_additiveref40_Commands_L0_out, e9]
     rw [LK_step]
     simp (maxSteps := 4000000) [c25, e9, f22]) bigN s r h
def t_additiveref40_Commands_L1 (k0 : (FS api_Op)) (k1 : (FS Int)) (s : (additiveref40_state × Int)) : Option (LR (additiveref40_state × Int) (((FS api_Cmd) × Int) ⊕ additiveref40_state)) := match s with
 | (s0, s1) => (if (ilt s1 (flen k0)) = true then (match loopT (t_additiveref40_Commands_L0 k0 k1 (⟨s0.S, s0.At, s0.Cells, s0.Feed, s0.Out, s0.Bad⟩ : additiveref40_state) s1) bigN 0 with
 | none => none
 | some v17 => (match v17 with
 | .inl v17x => some (.dn (.inl ((FS.nil : (FS api_Cmd)), v17x.2)))
 | .inr v17x => (match fget k0 s1 with
 | none => none
 | some v21 => (match fget k1 s1 with
 | none => none
 | some v24 => (match t_additiveref40_state_op (⟨s0.S, s0.At, s0.Cells, s0.Feed, s0.Out, s0.Bad⟩ : additiveref40_state) v21 v24 with
 | none => none
 | some v26 => (if v26.Bad = true then some (.dn (.inl ((FS.nil : (FS api_Cmd)), 8)))
 else some (.nx ((⟨v26.S, v26.At, v26.Cells, v26.Feed, v26.Out, v26.Bad⟩ : additiveref40_state), (iadd .i64 s1 1)))))))))
 else some (.dn (.inr (⟨s0.S, s0.At, s0.Cells, s0.Feed, s0.Out, s0.Bad⟩ : additiveref40_state))))
def t_additiveref40_Commands_L1_st (k0 : (FS api_Op)) (k1 : (FS Int)) (s : (additiveref40_state × Int)) : St := match s with
 | (s0, s1) => (fcase s0.Out (⟨fr [(0, encF e_api_Op k0), (6, encF e_i64 k1), (8, .ptr 22 0 0), (9, .int .i64 s1)], hl [(22, .box 0 [.int .i64 s0.S.Pitch, .int .i64 s0.S.Height, .int .i64 s0.S.Walls, .int .i64 s0.S.Top, .int .i64 s0.S.Bottom, .int .i64 s0.S.Pattern, .int .i64 s0.S.Spacing, .bool s0.S.Support, .int .i64 s0.S.Reach, .int .i64 s0.S.Gap, .int .i64 s0.S.Brim, .int .i64 s0.S.Skirt, .int .i64 s0.S.Drop, .int .i64 s0.S.Feed, .int .i64 s0.S.Travel, .int .i64 s0.S.Retract, .int .i64 s0.S.MinTime, .int .i64 s0.S.MinFeed, .int .i64 s0.S.Nozzle, .int .i64 s0.S.Bed, .int .i64 s0.At.X, .int .i64 s0.At.Y, .int .i64 s0.Cells, .int .i64 s0.Feed, .nils, .bool s0.Bad])]⟩)
  (fun l0 => ⟨fr [(0, encF e_api_Op k0), (6, encF e_i64 k1), (8, .ptr 22 0 0), (9, .int .i64 s1)], hl [(22, .box 0 [.int .i64 s0.S.Pitch, .int .i64 s0.S.Height, .int .i64 s0.S.Walls, .int .i64 s0.S.Top, .int .i64 s0.S.Bottom, .int .i64 s0.S.Pattern, .int .i64 s0.S.Spacing, .bool s0.S.Support, .int .i64 s0.S.Reach, .int .i64 s0.S.Gap, .int .i64 s0.S.Brim, .int .i64 s0.S.Skirt, .int .i64 s0.S.Drop, .int .i64 s0.S.Feed, .int .i64 s0.S.Travel, .int .i64 s0.S.Retract, .int .i64 s0.S.MinTime, .int .i64 s0.S.MinFeed, .int .i64 s0.S.Nozzle, .int .i64 s0.S.Bed, .int .i64 s0.At.X, .int .i64 s0.At.Y, .int .i64 s0.Cells, .int .i64 s0.Feed, .arr 1022024 0 0 l0.l.length, .bool s0.Bad]), (1022024, .arr 0 8 55 (cellsE e_api_Cmd l0.l) false)]⟩))
def t_additiveref40_Commands_L1_out (k0 : (FS api_Op)) (k1 : (FS Int)) (x : (((FS api_Cmd) × Int) ⊕ additiveref40_state)) : LE × St := match x with
 | .inl x => (.ret, ⟨fr [(4, .nils), (5, .int .i64 x.2)], hl []⟩)
 | .inr x => (fcase x.Out (.exit 0, ⟨fr [(8, .ptr 22 0 0)], hl [(22, .box 0 [.int .i64 x.S.Pitch, .int .i64 x.S.Height, .int .i64 x.S.Walls, .int .i64 x.S.Top, .int .i64 x.S.Bottom, .int .i64 x.S.Pattern, .int .i64 x.S.Spacing, .bool x.S.Support, .int .i64 x.S.Reach, .int .i64 x.S.Gap, .int .i64 x.S.Brim, .int .i64 x.S.Skirt, .int .i64 x.S.Drop, .int .i64 x.S.Feed, .int .i64 x.S.Travel, .int .i64 x.S.Retract, .int .i64 x.S.MinTime, .int .i64 x.S.MinFeed, .int .i64 x.S.Nozzle, .int .i64 x.S.Bed, .int .i64 x.At.X, .int .i64 x.At.Y, .int .i64 x.Cells, .int .i64 x.Feed, .nils, .bool x.Bad])]⟩)
  (fun l0 => (.exit 0, ⟨fr [(8, .ptr 22 0 0)], hl [(22, .box 0 [.int .i64 x.S.Pitch, .int .i64 x.S.Height, .int .i64 x.S.Walls, .int .i64 x.S.Top, .int .i64 x.S.Bottom, .int .i64 x.S.Pattern, .int .i64 x.S.Spacing, .bool x.S.Support, .int .i64 x.S.Reach, .int .i64 x.S.Gap, .int .i64 x.S.Brim, .int .i64 x.S.Skirt, .int .i64 x.S.Drop, .int .i64 x.S.Feed, .int .i64 x.S.Travel, .int .i64 x.S.Retract, .int .i64 x.S.MinTime, .int .i64 x.S.MinFeed, .int .i64 x.S.Nozzle, .int .i64 x.S.Bed, .int .i64 x.At.X, .int .i64 x.At.Y, .int .i64 x.Cells, .int .i64 x.Feed, .arr 1022024 0 0 l0.l.length, .bool x.Bad]), (1022024, .arr 0 8 55 (cellsE e_api_Cmd l0.l) false)]⟩)))
theorem t_additiveref40_Commands_L1_ok {k0 : (FS api_Op)} {k1 : (FS Int)} {s : (additiveref40_state × Int)} {r : (((FS api_Cmd) × Int) ⊕ additiveref40_state)} (h : loopT (t_additiveref40_Commands_L1 k0 k1) bigN s = some r) : LK env [] 0 [0, 6, 8, 9] c37_L1 (some (t_additiveref40_Commands_L1_st k0 k1 s)) = some (t_additiveref40_Commands_L1_out k0 k1 r) := loop_walk (st := t_additiveref40_Commands_L1_st k0 k1) (out := t_additiveref40_Commands_L1_out k0 k1) (by
 clear h s r
 rintro ⟨s0, s1⟩ x h
 simp only [t_additiveref40_Commands_L1] at h
 cases e6 : s0.Out with
 | nil =>
  try simp only [e6, flen_nil] at h
  by_cases c7 : (ilt s1 (flen k0)) = true
  · rw [if_pos c7] at h
    cases h34 : loopT (t_additiveref40_Commands_L0 k0 k1 (⟨s0.S, s0.At, s0.Cells, s0.Feed, (FS.nil : (FS api_Cmd)), s0.Bad⟩ : additiveref40_state) s1) bigN 0 with
    | none => (rw [h34] at h; cases h)
    | some v35 =>
     simp only [h34] at h
     have f36 := t_additiveref40_Commands_L0_ok h34
     cases v35 with
     | inl v35x =>
      try simp only at h
      simp only [t_additiveref40_Commands_L0_st, t_additiveref40_Commands_L0_out, fset_len] at f36
      try simp only [fcase_nil, fcase_lst, fcase_fsnoc, fcase_fapp, fcase_fset, fcase_frep, fcase_flit, fcase_flst] at f36
      cases h
      show LK env [] 0 [0, 6, 8, 9] c37_L1 (some (t_additiveref40_Commands_L1_st _ _ _)) = some (t_additiveref40_Commands_L1_out _ _ _)
      simp only [t_additiveref40_Commands_L1_st, t_additiveref40_Commands_L1_out, e6]
      rw [LK_step]
      try simp only [c7] at f36
      simp (maxSteps := 4000000) [c7, e6, f36]
     | inr v35x =>
      try simp only at h
      simp only [t_additiveref40_Commands_L0_st, t_additiveref40_Commands_L0_out, fset_len] at f36
      try simp only [fcase_nil, fcase_lst, fcase_fsnoc, fcase_fapp, fcase_fset, fcase_frep, fcase_flit, fcase_flst] at f36
      cases h38 : fget k0 s1 with
      | none => (rw [h38] at h; cases h)
      | some v39 =>
       simp only [h38] at h
       have f37 := iaddr_F (e := e_api_Op) h38
       cases h41 : fget k1 s1 with
       | none => (rw [h41] at h; cases h)
       | some v42 =>
        simp only [h41] at h
        have f40 := iaddr_F (e := e_i64) h41
        cases h43 : t_additiveref40_state_op (⟨s0.S, s0.At, s0.Cells, s0.Feed, (FS.nil : (FS api_Cmd)), s0.Bad⟩ : additiveref40_state) v39 v42 with
        | none => (rw [h43] at h; cases h)
        | some v44 =>
         simp only [h43] at h
         have f45 := t_additiveref40_state_op_okN rfl h43
         try simp only [fset_len, encF_nil, fcase_nil, fcase_lst, fcase_fsnoc, fcase_fapp, fcase_fset, fcase_frep, fcase_flit, fcase_flst] at f45
         cases e47 : v44.Out with
         | nil =>
          try simp only [e47, flen_nil] at h
          simp only [e47, flen_nil, fcase_nil, fcase_lst] at f45
          by_cases c48 : v44.Bad = true
          · rw [if_pos c48] at h
            cases h
            show LK env [] 0 [0, 6, 8, 9] c37_L1 (some (t_additiveref40_Commands_L1_st _ _ _)) = some (t_additiveref40_Commands_L1_out _ _ _)
            simp only [t_additiveref40_Commands_L1_st, t_additiveref40_Commands_L1_out, e6]
            rw [LK_step]
            try simp only [c7, c48] at f36 f45
            simp (maxSteps := 4000000) [c7, c48, e6, f36, f37, f40, f45, e47]
          · rw [if_neg c48] at h
            rw [Bool.not_eq_true] at c48
            cases h
            show LK env [] 0 [0, 6, 8, 9] c37_L1 (some (t_additiveref40_Commands_L1_st _ _ _)) = LK env [] 0 [0, 6, 8, 9] c37_L1 (some (t_additiveref40_Commands_L1_st _ _ _))
            simp only [t_additiveref40_Commands_L1_st, e6]
            rw [LK_step]
            try simp only [c7, c48] at f36 f45
            simp (maxSteps := 4000000) [c7, c48, e6, f36, f37, f40, f45, e47]
         | lst l46 =>
          try simp only [e47] at h
          simp only [e47, flen_nil, fcase_nil, fcase_lst] at f45
          by_cases c49 : v44.Bad = true
          · rw [if_pos c49] at h
            cases h
            show LK env [] 0 [0, 6, 8, 9] c37_L1 (some (t_additiveref40_Commands_L1_st _ _ _)) = some (t_additiveref40_Commands_L1_out _ _ _)
            simp only [t_additiveref40_Commands_L1_st, t_additiveref40_Commands_L1_out, e6]
            rw [LK_step]
            try simp only [c7, c49] at f36 f45
            simp (maxSteps := 4000000) [c7, c49, e6, f36, f37, f40, f45, e47]
          · rw [if_neg c49] at h
            rw [Bool.not_eq_true] at c49
            cases h
            show LK env [] 0 [0, 6, 8, 9] c37_L1 (some (t_additiveref40_Commands_L1_st _ _ _)) = LK env [] 0 [0, 6, 8, 9] c37_L1 (some (t_additiveref40_Commands_L1_st _ _ _))
            simp only [t_additiveref40_Commands_L1_st, e6]
            rw [LK_step]
            try simp only [c7, c49] at f36 f45
            simp (maxSteps := 4000000) [c7, c49, e6, f36, f37, f40, f45, e47]
  · rw [if_neg c7] at h
    rw [Bool.not_eq_true] at c7
    cases h
    show LK env [] 0 [0, 6, 8, 9] c37_L1 (some (t_additiveref40_Commands_L1_st _ _ _)) = some (t_additiveref40_Commands_L1_out _ _ _)
    simp only [t_additiveref40_Commands_L1_st, t_additiveref40_Commands_L1_out, e6]
    rw [LK_step]
    simp (maxSteps := 4000000) [c7, e6]
 | lst l5 =>
  try simp only [e6] at h
  by_cases c50 : (ilt s1 (flen k0)) = true
  · rw [if_pos c50] at h
    cases h51 : loopT (t_additiveref40_Commands_L0 k0 k1 (⟨s0.S, s0.At, s0.Cells, s0.Feed, (FS.lst l5), s0.Bad⟩ : additiveref40_state) s1) bigN 0 with
    | none => (rw [h51] at h; cases h)
    | some v52 =>
     simp only [h51] at h
     have f53 := t_additiveref40_Commands_L0_ok h51
     cases v52 with
     | inl v52x =>
      try simp only at h
      simp only [t_additiveref40_Commands_L0_st, t_additiveref40_Commands_L0_out, fset_len] at f53
      try simp only [fcase_nil, fcase_lst, fcase_fsnoc, fcase_fapp, fcase_fset, fcase_frep, fcase_flit, fcase_flst] at f53
      cases h
      show LK env [] 0 [0, 6, 8, 9] c37_L1 (some (t_additiveref40_Commands_L1_st _ _ _)) = some (t_additiveref40_Commands_L1_out _ _ _)
      simp only [t_additiveref40_Commands_L1_st, t_additiveref40_Commands_L1_out, e6]
      rw [LK_step]
      try simp only [c50] at f53
      simp (maxSteps := 4000000) [c50, e6, f53]
     | inr v52x =>
      try simp only at h
      simp only [t_additiveref40_Commands_L0_st, t_additiveref40_Commands_L0_out, fset_len] at f53
      try simp only [fcase_nil, fcase_lst, fcase_fsnoc, fcase_fapp, fcase_fset, fcase_frep, fcase_flit, fcase_flst] at f53
      cases h55 : fget k0 s1 with
      | none => (rw [h55] at h; cases h)
      | some v56 =>
       simp only [h55] at h
       have f54 := iaddr_F (e := e_api_Op) h55
       cases h58 : fget k1 s1 with
       | none => (rw [h58] at h; cases h)
       | some v59 =>
        simp only [h58] at h
        have f57 := iaddr_F (e := e_i64) h58
        cases h60 : t_additiveref40_state_op (⟨s0.S, s0.At, s0.Cells, s0.Feed, (FS.lst l5), s0.Bad⟩ : additiveref40_state) v56 v59 with
        | none => (rw [h60] at h; cases h)
        | some v61 =>
         simp only [h60] at h
         obtain ⟨f62, ⟨l64, e63⟩⟩ := t_additiveref40_state_op_okO rfl h60
         simp only [e63] at f62
         try simp only [e63] at h
         try simp only [fset_len, encF_nil, fcase_nil, fcase_lst, fcase_fsnoc, fcase_fapp, fcase_fset, fcase_frep, fcase_flit, fcase_flst] at f62
         try simp only [fcase_nil, fcase_lst, fcase_fsnoc, fcase_fapp, fcase_fset, fcase_frep, fcase_flit, fcase_flst] at f62
         by_cases c65 : v61.Bad = true
         · rw [if_pos c65] at h
           cases h
           show LK env [] 0 [0, 6, 8, 9] c37_L1 (some (t_additiveref40_Commands_L1_st _ _ _)) = some (t_additiveref40_Commands_L1_out _ _ _)
           simp only [t_additiveref40_Commands_L1_st, t_additiveref40_Commands_L1_out, e6]
           rw [LK_step]
           try simp only [c50, c65] at f53 f62
           simp (maxSteps := 4000000) [c50, c65, e6, f53, f54, f57, e63, f62]
         · rw [if_neg c65] at h
           rw [Bool.not_eq_true] at c65
           cases h
           show LK env [] 0 [0, 6, 8, 9] c37_L1 (some (t_additiveref40_Commands_L1_st _ _ _)) = LK env [] 0 [0, 6, 8, 9] c37_L1 (some (t_additiveref40_Commands_L1_st _ _ _))
           simp only [t_additiveref40_Commands_L1_st, e6]
           rw [LK_step]
           try simp only [c50, c65] at f53 f62
           simp (maxSteps := 4000000) [c50, c65, e6, f53, f54, f57, e63, f62]
  · rw [if_neg c50] at h
    rw [Bool.not_eq_true] at c50
    cases h
    show LK env [] 0 [0, 6, 8, 9] c37_L1 (some (t_additiveref40_Commands_L1_st _ _ _)) = some (t_additiveref40_Commands_L1_out _ _ _)
    simp only [t_additiveref40_Commands_L1_st, t_additiveref40_Commands_L1_out, e6]
    rw [LK_step]
    simp (maxSteps := 4000000) [c50, e6]) bigN s r h
def t_additiveref40_Commands (p0 : (FS api_Op)) (p1 : api_Settings) : Option ((FS api_Cmd) × Int) := (match t_additiveref35_Amounts p0 p1 with
 | none => none
 | some v3 => (if (ine v3.2 0) = true then some ((FS.nil : (FS api_Cmd)), v3.2)
 else (match loopT (t_additiveref40_Commands_L1 p0 v3.1) bigN ((⟨p1, (⟨0, 0⟩ : api_Cell), 0, 0, (FS.nil : (FS api_Cmd)), false⟩ : additiveref40_state), 0) with
 | none => none
 | some v30 => (match v30 with
 | .inl v30x => some ((FS.nil : (FS api_Cmd)), v30x.2)
 | .inr v30x => some (v30x.Out, 0)))))
theorem t_additiveref40_Commands_ok {p0 : (FS api_Op)} {p1 : api_Settings} {r : ((FS api_Cmd) × Int)} (h : t_additiveref40_Commands p0 p1 = some r) : FC env 37 [encF e_api_Op p0, .agg [.int .i64 p1.Pitch, .int .i64 p1.Height, .int .i64 p1.Walls, .int .i64 p1.Top, .int .i64 p1.Bottom, .int .i64 p1.Pattern, .int .i64 p1.Spacing, .bool p1.Support, .int .i64 p1.Reach, .int .i64 p1.Gap, .int .i64 p1.Brim, .int .i64 p1.Skirt, .int .i64 p1.Drop, .int .i64 p1.Feed, .int .i64 p1.Travel, .int .i64 p1.Retract, .int .i64 p1.MinTime, .int .i64 p1.MinFeed, .int .i64 p1.Nozzle, .int .i64 p1.Bed]] none = some (.tup [encF e_api_Cmd r.1, .int .i64 r.2], fun _ => none) := by
 unfold t_additiveref40_Commands at h
 cases h2 : t_additiveref35_Amounts p0 p1 with
 | none => (rw [h2] at h; cases h)
 | some v3 =>
  simp only [h2] at h
  have f1 := t_additiveref35_Amounts_ok h2
  by_cases c4 : (ine v3.2 0) = true
  · rw [if_pos c4] at h
    cases h
    refine FC_pure (lf := lf37) rfl rfl rfl ?_
    simp only [lf37, lc37]
    simp (maxSteps := 4000000) [c4, f1, snap_tupE, tupS, snap7_int, snap7_bool, snap7_str, snap7_nils, snap7_agg]
  · rw [if_neg c4] at h
    rw [Bool.not_eq_true] at c4
    cases h66 : loopT (t_additiveref40_Commands_L1 p0 v3.1) bigN ((⟨p1, (⟨0, 0⟩ : api_Cell), 0, 0, (FS.nil : (FS api_Cmd)), false⟩ : additiveref40_state), 0) with
    | none => (rw [h66] at h; cases h)
    | some v67 =>
     simp only [h66] at h
     have f68 := t_additiveref40_Commands_L1_ok h66
     cases v67 with
     | inl v67x =>
      try simp only at h
      simp only [t_additiveref40_Commands_L1_st, t_additiveref40_Commands_L1_out, fset_len] at f68
      try simp only [fcase_nil, fcase_lst, fcase_fsnoc, fcase_fapp, fcase_fset, fcase_frep, fcase_flit, fcase_flst] at f68
      cases h
      refine FC_pure (lf := lf37) rfl rfl rfl ?_
      simp only [lf37, lc37]
      try simp only [c4] at f68
      simp (maxSteps := 4000000) [c4, f1, f68, snap_tupE, tupS, snap7_int, snap7_bool, snap7_str, snap7_nils, snap7_agg]
     | inr v67x =>
      try simp only at h
      simp only [t_additiveref40_Commands_L1_st, t_additiveref40_Commands_L1_out, fset_len] at f68
      cases e70 : v67x.Out with
      | nil =>
       try simp only [e70, flen_nil] at h
       simp only [e70, flen_nil, fcase_nil, fcase_lst] at f68
       cases h
       refine FC_pure (lf := lf37) rfl rfl rfl ?_
       simp only [lf37, lc37]
       try simp only [c4] at f68
       simp (maxSteps := 4000000) [c4, f1, f68, e70, snap_tupE, tupS, snap7_int, snap7_bool, snap7_str, snap7_nils, snap7_agg]
      | lst l69 =>
       try simp only [e70] at h
       simp only [e70, flen_nil, fcase_nil, fcase_lst] at f68
       cases h
       refine FC_pure (lf := lf37) rfl rfl rfl ?_
       simp only [lf37, lc37]
       try simp only [c4] at f68
       simp (maxSteps := 4000000) [c4, f1, f68, e70, snap_row7 (e := e_api_Cmd) (el := 55) (fz := false), snap_tupE, tupS, snap7_int, snap7_bool, snap7_str, snap7_nils, snap7_agg]

/-! additiveref40.SameCmds -/
attribute [simp] c38_0 c38_1 c38_2 c38_3 c38_4 c38_5 c38_6 c38_7 c38_9
theorem c38_L0_u (Γ : Env) (ps : List Nat) (σ : St) : EC Γ ps 0 c38_L0 σ = EC Γ ps 0 (.seq (.seq (.reg false c38_4) (.cond (.t 14) .skip (.seq (.trim []) (.exit 0)))) (.seq (.blk 1 (.seq (.reg true c38_5) (.cond (.t 25) (.seq (.reg false c38_6) (.seq (.trim [4]) .ret)) .skip))) (.reg false c38_7))) σ := rfl
attribute [simp ↓] c38_L0_u
def t_additiveref40_SameCmds_L0 (k0 : (FS api_Cmd)) (k1 : (FS api_Cmd)) (s : Int) : Option (LR Int (Bool ⊕ Unit)) := match s with
 | s0 => (if (ilt s0 (flen k0)) = true then (match fget k0 s0 with
 | none => none
 | some v5 => (match fget k1 s0 with
 | none => none
 | some v8 => (if (bnot (band (ieq v5.Code v8.Code) (band (ieq v5.Has v8.Has) (band (ieq v5.X v8.X) (band (ieq v5.Y v8.Y) (band (ieq v5.Z v8.Z) (band (ieq v5.E v8.E) (band (ieq v5.F v8.F) (band (ieq v5.S v8.S) true))))))))) = true then some (.dn (.inl false))
 else some (.nx (iadd .i64 s0 1)))))
 else some (.dn (.inr ())))
def t_additiveref40_SameCmds_L0_st (k0 : (FS api_Cmd)) (k1 : (FS api_Cmd)) (s : Int) : St := match s with
 | s0 => ⟨fr [(0, encF e_api_Cmd k0), (1, encF e_api_Cmd k1), (5, .int .i64 s0)], hl []⟩
def t_additiveref40_SameCmds_L0_out (k0 : (FS api_Cmd)) (k1 : (FS api_Cmd)) (x : (Bool ⊕ Unit)) : LE × St := match x with
 | .inl x => (.ret, ⟨fr [(4, .bool x)], hl []⟩)
 | .inr x => (.exit 0, ⟨fr [], hl []⟩)
theorem t_additiveref40_SameCmds_L0_ok {k0 : (FS api_Cmd)} {k1 : (FS api_Cmd)} {s : Int} {r : (Bool ⊕ Unit)} (h : loopT (t_additiveref40_SameCmds_L0 k0 k1) bigN s = some r) : LK env [] 0 [0, 1, 5] c38_L0 (some (t_additiveref40_SameCmds_L0_st k0 k1 s)) = some (t_additiveref40_SameCmds_L0_out k0 k1 r) := loop_walk (st := t_additiveref40_SameCmds_L0_st k0 k1) (out := t_additiveref40_SameCmds_L0_out k0 k1) (by
 clear h s r
 rintro s0 x h
 simp only [t_additiveref40_SameCmds_L0] at h
 by_cases c2 : (ilt s0 (flen k0)) = true
 · rw [if_pos c2] at h
   cases h4 : fget k0 s0 with
   | none => (rw [h4] at h; cases h)
   | some v5 =>
    simp only [h4] at h
    have f3 := iaddr_F (e := e_api_Cmd) h4
    cases h7 : fget k1 s0 with
    | none => (rw [h7] at h; cases h)
    | some v8 =>
     simp only [h7] at h
     have f6 := iaddr_F (e := e_api_Cmd) h7
     by_cases c9 : (bnot (band (ieq v5.Code v8.Code) (band (ieq v5.Has v8.Has) (band (ieq v5.X v8.X) (band (ieq v5.Y v8.Y) (band (ieq v5.Z v8.Z) (band (ieq v5.E v8.E) (band (ieq v5.F v8.F) (band (ieq v5.S v8.S) true))))))))) = true
     · rw [if_pos c9] at h
       cases h
       show LK env [] 0 [0, 1, 5] c38_L0 (some (t_additiveref40_SameCmds_L0_st _ _ _)) = some (t_additiveref40_SameCmds_L0_out _ _ _)
       simp only [t_additiveref40_SameCmds_L0_st, t_additiveref40_SameCmds_L0_out]
       rw [LK_step]
       rcases tof (ieq v5.Code v8.Code) with a10 | a10
       · rcases tof (ieq v5.Has v8.Has) with a11 | a11
         · rcases tof (ieq v5.X v8.X) with a12 | a12
           · rcases tof (ieq v5.Y v8.Y) with a13 | a13
             · rcases tof (ieq v5.Z v8.Z) with a14 | a14
               · rcases tof (ieq v5.E v8.E) with a15 | a15
                 · rcases tof (ieq v5.F v8.F) with a16 | a16
                   · rcases tof (ieq v5.S v8.S) with a17 | a17
                     · simp [c2, a10, a11, a12, a13, a14, a15, a16, a17] at c9
                     · simp (maxSteps := 4000000) [c2, a10, a11, a12, a13, a14, a15, a16, a17, f3, f6]
                   · simp (maxSteps := 4000000) [c2, a10, a11, a12, a13, a14, a15, a16, f3, f6]
                 · simp (maxSteps := 4000000) [c2, a10, a11, a12, a13, a14, a15, f3, f6]
               · simp (maxSteps := 4000000) [c2, a10, a11, a12, a13, a14, f3, f6]
             · simp (maxSteps := 4000000) [c2, a10, a11, a12, a13, f3, f6]
           · simp (maxSteps := 4000000) [c2, a10, a11, a12, f3, f6]
         · simp (maxSteps := 4000000) [c2, a10, a11, f3, f6]
       · simp (maxSteps := 4000000) [c2, a10, f3, f6]
     · rw [if_neg c9] at h
       rw [Bool.not_eq_true] at c9
       cases h
       show LK env [] 0 [0, 1, 5] c38_L0 (some (t_additiveref40_SameCmds_L0_st _ _ _)) = LK env [] 0 [0, 1, 5] c38_L0 (some (t_additiveref40_SameCmds_L0_st _ _ _))
       simp only [t_additiveref40_SameCmds_L0_st]
       rw [LK_step]
       rcases tof (ieq v5.Code v8.Code) with a18 | a18
       · rcases tof (ieq v5.Has v8.Has) with a19 | a19
         · rcases tof (ieq v5.X v8.X) with a20 | a20
           · rcases tof (ieq v5.Y v8.Y) with a21 | a21
             · rcases tof (ieq v5.Z v8.Z) with a22 | a22
               · rcases tof (ieq v5.E v8.E) with a23 | a23
                 · rcases tof (ieq v5.F v8.F) with a24 | a24
                   · rcases tof (ieq v5.S v8.S) with a25 | a25
                     · simp (maxSteps := 4000000) [c2, a18, a19, a20, a21, a22, a23, a24, a25, f3, f6]
                     · simp [c2, a18, a19, a20, a21, a22, a23, a24, a25] at c9
                   · simp [c2, a18, a19, a20, a21, a22, a23, a24] at c9
                 · simp [c2, a18, a19, a20, a21, a22, a23] at c9
               · simp [c2, a18, a19, a20, a21, a22] at c9
             · simp [c2, a18, a19, a20, a21] at c9
           · simp [c2, a18, a19, a20] at c9
         · simp [c2, a18, a19] at c9
       · simp [c2, a18] at c9
 · rw [if_neg c2] at h
   rw [Bool.not_eq_true] at c2
   cases h
   show LK env [] 0 [0, 1, 5] c38_L0 (some (t_additiveref40_SameCmds_L0_st _ _ _)) = some (t_additiveref40_SameCmds_L0_out _ _ _)
   simp only [t_additiveref40_SameCmds_L0_st, t_additiveref40_SameCmds_L0_out]
   rw [LK_step]
   simp (maxSteps := 4000000) [c2]) bigN s r h
def t_additiveref40_SameCmds (p0 : (FS api_Cmd)) (p1 : (FS api_Cmd)) : Option Bool := (if (ine (flen p0) (flen p1)) = true then some false
 else (match loopT (t_additiveref40_SameCmds_L0 p0 p1) bigN 0 with
 | none => none
 | some v11 => (match v11 with
 | .inl v11x => some v11x
 | .inr v11x => some true)))
theorem t_additiveref40_SameCmds_ok {p0 : (FS api_Cmd)} {p1 : (FS api_Cmd)} {r : Bool} (h : t_additiveref40_SameCmds p0 p1 = some r) : FC env 38 [encF e_api_Cmd p0, encF e_api_Cmd p1] none = some (.bool r, fun _ => none) := by
 unfold t_additiveref40_SameCmds at h
 by_cases c1 : (ine (flen p0) (flen p1)) = true
 · rw [if_pos c1] at h
   cases h
   refine FC_pure (lf := lf38) rfl rfl rfl ?_
   simp only [lf38, lc38]
   simp (maxSteps := 4000000) [c1]
 · rw [if_neg c1] at h
   rw [Bool.not_eq_true] at c1
   cases h26 : loopT (t_additiveref40_SameCmds_L0 p0 p1) bigN 0 with
   | none => (rw [h26] at h; cases h)
   | some v27 =>
    simp only [h26] at h
    have f28 := t_additiveref40_SameCmds_L0_ok h26
    cases v27 with
    | inl v27x =>
     try simp only at h
     simp only [t_additiveref40_SameCmds_L0_st, t_additiveref40_SameCmds_L0_out, fset_len] at f28
     try simp only [fcase_nil, fcase_lst, fcase_fsnoc, fcase_fapp, fcase_fset, fcase_frep, fcase_flit, fcase_flst] at f28
     cases h
     refine FC_pure (lf := lf38) rfl rfl rfl ?_
     simp only [lf38, lc38]
     try simp only [c1] at f28
     simp (maxSteps := 4000000) [c1, f28]
    | inr v27x =>
     try simp only at h
     simp only [t_additiveref40_SameCmds_L0_st, t_additiveref40_SameCmds_L0_out, fset_len] at f28
     try simp only [fcase_nil, fcase_lst, fcase_fsnoc, fcase_fapp, fcase_fset, fcase_frep, fcase_flit, fcase_flst] at f28
     cases h
     refine FC_pure (lf := lf38) rfl rfl rfl ?_
     simp only [lf38, lc38]
     try simp only [c1] at f28
     simp (maxSteps := 4000000) [c1, f28]

/-! additivelaw40.awake -/
def u_additivelaw40_awake : Bool := true
theorem u_additivelaw40_awake_ok : FC env 39 [] none = some (.bool u_additivelaw40_awake, fun _ => none) := FC_iff.2 ⟨60, by kernel_rfl⟩

/-! additivelaw40.EmitCommands -/
attribute [simp] c11_0 c11_1 c11_2 c11_3 c11_4
def t_additivelaw40_EmitCommands (p0 : (FS api_Op)) (p1 : api_Settings) : Option Bool := (match t_additivelaw40_few p0 with
 | none => none
 | some v3 => (match t_emit_Commands v3 p1 with
 | none => none
 | some v6 => (match t_additiveref40_Commands v3 p1 with
 | none => none
 | some v9 => (match t_additiveref40_SameCmds v6.1 v9.1 with
 | none => none
 | some v12 => some (band (band v12 (ieq v6.2 v9.2)) u_additivelaw40_awake)))))
theorem t_additivelaw40_EmitCommands_ok {p0 : (FS api_Op)} {p1 : api_Settings} {r : Bool} (h : t_additivelaw40_EmitCommands p0 p1 = some r) : FC env 11 [encF e_api_Op p0, .agg [.int .i64 p1.Pitch, .int .i64 p1.Height, .int .i64 p1.Walls, .int .i64 p1.Top, .int .i64 p1.Bottom, .int .i64 p1.Pattern, .int .i64 p1.Spacing, .bool p1.Support, .int .i64 p1.Reach, .int .i64 p1.Gap, .int .i64 p1.Brim, .int .i64 p1.Skirt, .int .i64 p1.Drop, .int .i64 p1.Feed, .int .i64 p1.Travel, .int .i64 p1.Retract, .int .i64 p1.MinTime, .int .i64 p1.MinFeed, .int .i64 p1.Nozzle, .int .i64 p1.Bed]] none = some (.bool r, fun _ => none) := by
 unfold t_additivelaw40_EmitCommands at h
 cases h2 : t_additivelaw40_few p0 with
 | none => (rw [h2] at h; cases h)
 | some v3 =>
  simp only [h2] at h
  have f1 := t_additivelaw40_few_ok h2
  cases h5 : t_emit_Commands v3 p1 with
  | none => (rw [h5] at h; cases h)
  | some v6 =>
   simp only [h5] at h
   have f4 := t_emit_Commands_ok h5
   cases h8 : t_additiveref40_Commands v3 p1 with
   | none => (rw [h8] at h; cases h)
   | some v9 =>
    simp only [h8] at h
    have f7 := t_additiveref40_Commands_ok h8
    cases h11 : t_additiveref40_SameCmds v6.1 v9.1 with
    | none => (rw [h11] at h; cases h)
    | some v12 =>
     simp only [h11] at h
     have f10 := t_additiveref40_SameCmds_ok h11
     have f13 := u_additivelaw40_awake_ok 
     cases h
     refine FC_pure (lf := lf11) rfl rfl rfl ?_
     simp only [lf11, lc11]
     rcases tof v12 with a14 | a14
     · rcases tof (ieq v6.2 v9.2) with a15 | a15
       · simp (maxSteps := 4000000) [a14, a15, f1, f4, f7, f10, f13]
       · simp (maxSteps := 4000000) [a14, a15, f1, f4, f7, f10, f13]
     · simp (maxSteps := 4000000) [a14, f1, f4, f7, f10, f13]
end Go.Proofs.Ytchiiiahgmfofaa
