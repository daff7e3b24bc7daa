/- FlowValids: flow.Valid and flow.Volume answer as the reference does, for any settings and number. Conditions: none. -/
import Derived.Test.YtldcbmkfkbnmbaaRows
import Derived.Test.YtldcbmkfkbnmbaaWd
import Derived.Test.YtldcbmkfkbnmbaaVq
import Derived.ProofKit
namespace Go.Proofs.Ytldcbmkfkbnmbaa.lawFlowValids
open Go Go.Vv Go.Proofs Go.Proofs.Ytldcbmkfkbnmbaa
open Go.ChangeShapes Go.WideShapes Go.ChangeAt Go.RowKit
set_option linter.unusedVariables false

theorem own : ownKnob Try.prog.godebug = none := by kernel_rfl
theorem laidOut : laidOutB Try.prog = true := by kernel_rfl
theorem sh23 : shT Try.prog 4 23 = some [.i .i64, .i .i64, .i .i64, .i .i64, .i .i64, .i .i64, .i .i64, .b, .i .i64, .i .i64, .i .i64, .i .i64, .i .i64, .i .i64, .i .i64, .i .i64, .i .i64, .i .i64, .i .i64, .i .i64] := by kernel_rfl
/-- Settings that came in. -/
theorem settings_of {W : World} {S : Nat → Prop} {L : List AV} {cs : List Value} (h : Reads W S [.i .i64, .i .i64, .i .i64, .i .i64, .i .i64, .i .i64, .i .i64, .b, .i .i64, .i .i64, .i .i64, .i .i64, .i .i64, .i .i64, .i .i64, .i .i64, .i .i64, .i .i64, .i .i64, .i .i64] L cs) :
    ∃ (s : Nat → Int) (p : Bool), L = setC s p := by
  rcases h with _ | ⟨⟨_⟩ | ⟨_, n0, w0⟩, -, -, h⟩
  rcases h with _ | ⟨⟨_⟩ | ⟨_, n1, w1⟩, -, -, h⟩
  rcases h with _ | ⟨⟨_⟩ | ⟨_, n2, w2⟩, -, -, h⟩
  rcases h with _ | ⟨⟨_⟩ | ⟨_, n3, w3⟩, -, -, h⟩
  rcases h with _ | ⟨⟨_⟩ | ⟨_, n4, w4⟩, -, -, h⟩
  rcases h with _ | ⟨⟨_⟩ | ⟨_, n5, w5⟩, -, -, h⟩
  rcases h with _ | ⟨⟨_⟩ | ⟨_, n6, w6⟩, -, -, h⟩
  rcases h with _ | ⟨⟨p⟩ | _, -, -, h⟩
  rcases h with _ | ⟨⟨_⟩ | ⟨_, n8, w8⟩, -, -, h⟩
  rcases h with _ | ⟨⟨_⟩ | ⟨_, n9, w9⟩, -, -, h⟩
  rcases h with _ | ⟨⟨_⟩ | ⟨_, n10, w10⟩, -, -, h⟩
  rcases h with _ | ⟨⟨_⟩ | ⟨_, n11, w11⟩, -, -, h⟩
  rcases h with _ | ⟨⟨_⟩ | ⟨_, n12, w12⟩, -, -, h⟩
  rcases h with _ | ⟨⟨_⟩ | ⟨_, n13, w13⟩, -, -, h⟩
  rcases h with _ | ⟨⟨_⟩ | ⟨_, n14, w14⟩, -, -, h⟩
  rcases h with _ | ⟨⟨_⟩ | ⟨_, n15, w15⟩, -, -, h⟩
  rcases h with _ | ⟨⟨_⟩ | ⟨_, n16, w16⟩, -, -, h⟩
  rcases h with _ | ⟨⟨_⟩ | ⟨_, n17, w17⟩, -, -, h⟩
  rcases h with _ | ⟨⟨_⟩ | ⟨_, n18, w18⟩, -, -, h⟩
  rcases h with _ | ⟨⟨_⟩ | ⟨_, n19, w19⟩, -, -, h⟩
  cases h
  exact ⟨fun i => [n0, n1, n2, n3, n4, n5, n6, 0, n8, n9, n10, n11, n12, n13, n14, n15, n16, n17, n18, n19].getD i 0, p, rfl⟩

set_option maxRecDepth 100000 in
theorem lifted (os : Os) (started : os.Started) (H : Type) (enc : TypeId × Value → H) :
    ReturnsInHanded {} Try.checked os 3 .any (Rows.flowValidsSpec.pre6 enc Try.prog Try.f3 Rows.flowValidsRow.domain false) (Rows.flowValidsSpec.post enc Try.prog Try.f3 false true false false) := by
  refine returnsInHanded_of_change (C := Try.checked) own started (by kernel_rfl) Try.func3
    (ChangeSpec.witness6 (enc := enc) (C := Try.checked) false ⟨#[], #[.agg #[.int .i64 0, .int .i64 0, .int .i64 0, .int .i64 0, .int .i64 0, .int .i64 0, .int .i64 0, .bool false, .int .i64 0, .int .i64 0, .int .i64 0, .int .i64 0, .int .i64 0, .int .i64 0, .int .i64 0, .int .i64 0, .int .i64 0, .int .i64 0, .int .i64 0, .int .i64 0], .int .i64 0], []⟩ 8 (by kernel_rfl) (by kernel_rfl) (by kernel_rfl) (by kernel_rfl)) ?_
  intro W base args ds gs before hval0 hW hcnd _
  have hval : ∀ (j : Nat) t v, Try.f3.params[j]? = some t → args[j]? = some v → Value.okWide Try.prog W .any base t v := hval0
  have hW' := hW
  obtain ⟨p, q, hA0, hV, rfl, hfz, hnd⟩ := hW
  have hA : DataW.TrodAll enc Try.prog W 0 (fun _ => true) true Try.f3.params.toList args.toList ds p := hA0
  rw [Try.params3] at hA hval
  obtain ⟨v0, vs0, d0, ds0, p0, q0, hargs, rfl, rfl, h0, r0⟩ := trodAll_cons hA
  obtain ⟨v1, vs1, d1, ds1, p1, q1, rfl, rfl, rfl, h1, r1⟩ := trodAll_cons r0
  obtain ⟨rfl, rfl, rfl⟩ := trodAll_nil r1
  obtain rfl : args = #[v0, v1] := by cases args; simp_all
  obtain ⟨rfl, rfl⟩ := trodVars_none hV
  have lt0 : ∀ x ∈ p0, x.block < W.heap.size := by obtain ⟨m, hm⟩ := h0; exact DataW.trod_lt m _ _ _ hm
  obtain ⟨c0, rfl⟩ := agg_of_okWide Try.underlying23 (hval 0 23 v0 rfl rfl)
  obtain ⟨L0, a0, e0⟩ := arg_agg sh23 h0
  obtain ⟨s, b, rfl⟩ := settings_of a0
  obtain ⟨n, rfl, rfl, rfl, w1⟩ := open_int Try.underlying3 (hval 1 3 v1 rfl rfl) h1
  clear hA0 hval0
  refine (true_run env_ok (flowValids_ev s b n) rfl (args2 e0 (.int _ _))).mono fun e W' ⟨he, bel⟩ => ?_
  subst he
  exact ⟨_, rfl, _, _, _, [], _, [], hW', trodAll_mk1 (shut_bool Try.underlying4 _), (trodAll_cons_mk (Below.trod laidOut (by kernel_rfl) (of_decide_eq_true (by kernel_rfl)) h0 bel lt0) (trodAll_cons_mk (shut_int Try.underlying3 w1) trodAll_mk0)), rfl, bel.frame _, fun h => by cases h⟩

theorem over : Rows.flowValidsRow.holds Try.pinned (OpenSpec.ofChange Rows.flowValidsSpec) :=
  OpenClaim.holds_of_wide 3 Try.f3 rfl rfl rfl rfl rfl rfl rfl ⟨rfl, rfl, rfl, rfl, rfl⟩ rfl rfl rfl rfl rfl (by kernel_rfl) Try.func3 (by kernel_rfl)
    (of_decide_eq_true (by kernel_rfl)) (by unfold Func.isWrapper; first | (rw [if_pos (by decide +kernel)]; kernel_rfl) | (rw [if_neg (by decide +kernel)]; exact ⟨rfl, rfl⟩))
    (fun os started H enc _ => lifted os started H enc)

theorem proved : Rows.FlowValidsSaid := over
end Go.Proofs.Ytldcbmkfkbnmbaa.lawFlowValids
