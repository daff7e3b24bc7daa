/- HatchEvery: the cells that Rows and Columns cover are those of the region whose row, or column, has the remainder of phase. Conditions: none. -/
import Derived.Test.YtaammoealihpmaaGreatRows
import Derived.Test.YtaammoealihpmaaGreatXD
import Derived.Test.YtaammoealihpmaaGreatFC
import Derived.ProofKit
namespace Go.Proofs.YtaammoealihpmaaGreat.lawHatchEvery
open Go Go.Vv Go.Dn Go.Proofs Go.Proofs.YtaammoealihpmaaGreat
open Go.ChangeShapes Go.WideShapes Go.ChangeAt Go.RowKit
set_option linter.unusedVariables false
theorem own : ownKnob Tryz.prog.godebug = none := by kernel_rfl
theorem laidOut : laidOutB Tryz.prog = true := by kernel_rfl
theorem sh0a : (shT Tryz.prog 9 24).isSome = true := by kernel_rfl
theorem sh0 : shT Tryz.prog 9 24 = Ty.shp (.ls (.p I (.ls (.p I I)))) := by kernel_rfl
theorem sh3a : (shT Tryz.prog 9 36).isSome = true := by kernel_rfl
theorem sh3 : shT Tryz.prog 9 36 = Ty.shp (.p I I) := by kernel_rfl
theorem hgood : Go.Dn.Good Tryz.prog ⟨6, [(.ag, (.ls (.p I (.ls (.p I I))))), (.one, .int .i64), (.one, .int .i64), (.ag, (.p I I))], [(false, .bool)], @t_additivelaw29_HatchEvery wv⟩ := g_additivelaw29_HatchEvery
set_option maxRecDepth 100000 in
theorem lifted (os : Os) (started : os.Started) (H : Type) (enc : TypeId × Value → H) :
  ReturnsInHanded {} Tryz.checked os 6 .any (Rows.hatchEverySpec.pre6 enc Tryz.prog Tryz.f6 Rows.hatchEveryRow.domain false) (Rows.hatchEverySpec.post enc Tryz.prog Tryz.f6 false true false false) := by
 refine returnsInHanded_of_change (C := Tryz.checked) own started (by kernel_rfl) Tryz.func6
  (ChangeSpec.witness6 (enc := enc) (C := Tryz.checked) false ⟨#[], #[.agg #[.slice none 0 0], .int .i64 0, .int .i64 0, .agg #[.int .i64 0, .int .i64 0]], []⟩ 8 (by kernel_rfl) (by kernel_rfl) (by kernel_rfl) (by kernel_rfl)) ?_
 intro W base args ds gs before hval0 hW hcnd _
 have hval : ∀ (j : Nat) t v, Tryz.f6.params[j]? = some t → args[j]? = some v → Value.okWide Tryz.prog W .any base t v := hval0
 have hW' := hW
 obtain ⟨p, q, hA0, hV, rfl, hfz, hnd⟩ := hW
 have hA : DataW.TrodAll enc Tryz.prog W 0 (fun _ => true) true Tryz.f6.params.toList args.toList ds p := hA0
 rw [Tryz.params6] at hA hval
 obtain ⟨v0, vs0, d0, ds0, p0, q0, hargs, rfl, rfl, h0, r0⟩ := trodAll_cons hA
 obtain ⟨v1, vs1, d1, ds1, p1, q1, rfl, rfl, rfl, h1, r1⟩ := trodAll_cons r0
 obtain ⟨v2, vs2, d2, ds2, p2, q2, rfl, rfl, rfl, h2, r2⟩ := trodAll_cons r1
 obtain ⟨v3, vs3, d3, ds3, p3, q3, rfl, rfl, rfl, h3, r3⟩ := trodAll_cons r2
 obtain ⟨rfl, rfl, rfl⟩ := trodAll_nil r3
 obtain rfl : args = #[v0, v1, v2, v3] := by cases args; simp_all
 obtain ⟨rfl, rfl⟩ := trodVars_none hV
 have lt0 : ∀ x ∈ p0, x.block < W.heap.size := by obtain ⟨m, hm⟩ := h0; exact DataW.trod_lt m _ _ _ hm
 obtain ⟨c0, rfl⟩ := agg_of_okWide Tryz.underlying24 (hval 0 24 v0 rfl rfl)
 obtain ⟨r, wr, e0⟩ := in_agg sh0a sh0 h0
 obtain ⟨s, rfl, rfl, rfl, w1⟩ := open_int Tryz.underlying3 (hval 1 3 v1 rfl rfl) h1
 obtain ⟨p, rfl, rfl, rfl, w2⟩ := open_int Tryz.underlying3 (hval 2 3 v2 rfl rfl) h2
 have lt3 : ∀ x ∈ p3, x.block < W.heap.size := by obtain ⟨m, hm⟩ := h3; exact DataW.trod_lt m _ _ _ hm
 obtain ⟨c3, rfl⟩ := agg_of_okWide Tryz.underlying36 (hval 3 36 v3 rfl rfl)
 obtain ⟨c, wc, e3⟩ := in_agg sh3a sh3 h3
 clear hA0 hval0
 have hcall := Go.Dn.true_run (aks := [(.ag, (.ls (.p I (.ls (.p I I))))), (.one, .int .i64), (.one, .int .i64), (.ag, (.p I I))]) (fn := @t_additivelaw29_HatchEvery wv) hgood (x := (r, (s, (p, c)))) (every_true r s p c) (W := W) (cargs := #[.agg c0, .int .i64 s, .int .i64 p, .agg c3]) rfl (args4 (e0) (.int _ _) (.int _ _) (e3))
 refine hcall.mono fun e W' hh => ?_
 obtain ⟨he, bel⟩ := hh
 subst he
 exact ⟨_, rfl, _, _, _, [], _, [], hW', trodAll_mk1 (shut_bool Tryz.underlying4 _), (trodAll_cons_mk (Below.trod laidOut (by kernel_rfl) (of_decide_eq_true (by kernel_rfl)) h0 bel lt0) (trodAll_cons_mk (shut_int Tryz.underlying3 w1) (trodAll_cons_mk (shut_int Tryz.underlying3 w2) (trodAll_cons_mk (Below.trod laidOut (by kernel_rfl) (of_decide_eq_true (by kernel_rfl)) h3 bel lt3) trodAll_mk0)))), rfl, bel.frame _, fun h => by cases h⟩
theorem over : Rows.hatchEveryRow.holds Tryz.pinned (OpenSpec.ofChange Rows.hatchEverySpec) :=
 OpenClaim.holds_of_wide 6 Tryz.f6 rfl rfl rfl rfl rfl rfl rfl ⟨rfl, rfl, rfl, rfl, rfl⟩ rfl rfl rfl rfl rfl (by kernel_rfl) Tryz.func6 (by kernel_rfl)
  (of_decide_eq_true (by kernel_rfl)) (by unfold Func.isWrapper; first | (rw [if_pos (by decide +kernel)]; kernel_rfl) | (rw [if_neg (by decide +kernel)]; exact ⟨rfl, rfl⟩))
  (fun os started H enc _ => lifted os started H enc)
theorem proved : Rows.HatchEverySaid := over
end Go.Proofs.YtaammoealihpmaaGreat.lawHatchEvery
