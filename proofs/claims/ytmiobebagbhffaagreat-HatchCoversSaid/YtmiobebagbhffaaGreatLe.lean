/- HatchCovers: the tracks of Zigzag, Rows and Columns are valid and cover each cell of the region once, for any region and phase. Conditions: none. -/
import Derived.Test.YtmiobebagbhffaaGreatRows
import Derived.Test.YtmiobebagbhffaaGreatXD
import Derived.Test.YtmiobebagbhffaaGreatFC
import Derived.ProofKit
namespace Go.Proofs.YtmiobebagbhffaaGreat.lawHatchCovers
open Go Go.Vv Go.Dn Go.Proofs Go.Proofs.YtmiobebagbhffaaGreat
open Go.ChangeShapes Go.WideShapes Go.ChangeAt Go.RowKit
set_option linter.unusedVariables false
theorem own : ownKnob Tryz.prog.godebug = none := by kernel_rfl
theorem laidOut : laidOutB Tryz.prog = true := by kernel_rfl
theorem sh0a : (shT Tryz.prog 9 24).isSome = true := by kernel_rfl
theorem sh0 : shT Tryz.prog 9 24 = Ty.shp (.ls (.p I (.ls (.p I I)))) := by kernel_rfl
theorem hgood : Go.Dn.Good Tryz.prog ⟨6, [(.ag, (.ls (.p I (.ls (.p I I))))), (.one, .int .i64)], [(false, .bool)], @t_additivelaw29_HatchCovers wv⟩ := g_additivelaw29_HatchCovers
set_option maxRecDepth 100000 in
theorem lifted (os : Os) (started : os.Started) (H : Type) (enc : TypeId × Value → H) :
  ReturnsInHanded {} Tryz.checked os 6 .any (Rows.hatchCoversSpec.pre6 enc Tryz.prog Tryz.f6 Rows.hatchCoversRow.domain false) (Rows.hatchCoversSpec.post enc Tryz.prog Tryz.f6 false true false false) := by
 refine returnsInHanded_of_change (C := Tryz.checked) own started (by kernel_rfl) Tryz.func6
  (ChangeSpec.witness6 (enc := enc) (C := Tryz.checked) false ⟨#[], #[.agg #[.slice none 0 0], .int .i64 0], []⟩ 8 (by kernel_rfl) (by kernel_rfl) (by kernel_rfl) (by kernel_rfl)) ?_
 intro W base args ds gs before hval0 hW hcnd _
 have hval : ∀ (j : Nat) t v, Tryz.f6.params[j]? = some t → args[j]? = some v → Value.okWide Tryz.prog W .any base t v := hval0
 have hW' := hW
 obtain ⟨p, q, hA0, hV, rfl, hfz, hnd⟩ := hW
 have hA : DataW.TrodAll enc Tryz.prog W 0 (fun _ => true) true Tryz.f6.params.toList args.toList ds p := hA0
 rw [Tryz.params6] at hA hval
 obtain ⟨v0, vs0, d0, ds0, p0, q0, hargs, rfl, rfl, h0, r0⟩ := trodAll_cons hA
 obtain ⟨v1, vs1, d1, ds1, p1, q1, rfl, rfl, rfl, h1, r1⟩ := trodAll_cons r0
 obtain ⟨rfl, rfl, rfl⟩ := trodAll_nil r1
 obtain rfl : args = #[v0, v1] := by cases args; simp_all
 obtain ⟨rfl, rfl⟩ := trodVars_none hV
 have lt0 : ∀ x ∈ p0, x.block < W.heap.size := by obtain ⟨m, hm⟩ := h0; exact DataW.trod_lt m _ _ _ hm
 obtain ⟨c0, rfl⟩ := agg_of_okWide Tryz.underlying24 (hval 0 24 v0 rfl rfl)
 obtain ⟨r, wr, e0⟩ := in_agg sh0a sh0 h0
 obtain ⟨p, rfl, rfl, rfl, w1⟩ := open_int Tryz.underlying3 (hval 1 3 v1 rfl rfl) h1
 clear hA0 hval0
 have hcall := Go.Dn.true_run (aks := [(.ag, (.ls (.p I (.ls (.p I I))))), (.one, .int .i64)]) (fn := @t_additivelaw29_HatchCovers wv) hgood (x := (r, p)) (covers_true r p) (W := W) (cargs := #[.agg c0, .int .i64 p]) rfl (args2 (e0) (.int _ _))
 refine hcall.mono fun e W' hh => ?_
 obtain ⟨he, bel⟩ := hh
 subst he
 exact ⟨_, rfl, _, _, _, [], _, [], hW', trodAll_mk1 (shut_bool Tryz.underlying4 _), (trodAll_cons_mk (Below.trod laidOut (by kernel_rfl) (of_decide_eq_true (by kernel_rfl)) h0 bel lt0) (trodAll_cons_mk (shut_int Tryz.underlying3 w1) trodAll_mk0)), rfl, bel.frame _, fun h => by cases h⟩
theorem over : Rows.hatchCoversRow.holds Tryz.pinned (OpenSpec.ofChange Rows.hatchCoversSpec) :=
 OpenClaim.holds_of_wide 6 Tryz.f6 rfl rfl rfl rfl rfl rfl rfl ⟨rfl, rfl, rfl, rfl, rfl⟩ rfl rfl rfl rfl rfl (by kernel_rfl) Tryz.func6 (by kernel_rfl)
  (of_decide_eq_true (by kernel_rfl)) (by unfold Func.isWrapper; first | (rw [if_pos (by decide +kernel)]; kernel_rfl) | (rw [if_neg (by decide +kernel)]; exact ⟨rfl, rfl⟩))
  (fun os started H enc _ => lifted os started H enc)
theorem proved : Rows.HatchCoversSaid := over
end Go.Proofs.YtmiobebagbhffaaGreat.lawHatchCovers
