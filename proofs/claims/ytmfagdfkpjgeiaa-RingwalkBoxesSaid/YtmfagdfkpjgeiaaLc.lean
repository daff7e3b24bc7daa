/- the walk of a rectangle is one track that has as many cells as its border and begins at its jb corner -/
import Derived.Test.YtmfagdfkpjgeiaaRows
import Derived.Test.YtmfagdfkpjgeiaaXE
import Derived.Test.YtmfagdfkpjgeiaaFC
import Derived.ProofKit
namespace Go.Proofs.Ytmfagdfkpjgeiaa.lawRingwalkBoxes
open Go Go.Vv Go.Dn Go.Proofs Go.Proofs.Ytmfagdfkpjgeiaa
open Go.ChangeShapes Go.WideShapes Go.ChangeAt Go.RowKit
set_option linter.unusedVariables false
theorem own:ownKnob Try.prog.godebug=none:=by kernel_rfl
theorem laidOut:laidOutB Try.prog=true:=by kernel_rfl
theorem sh0a:(shT Try.prog 9 31).isSome=true:=by kernel_rfl
theorem sh0:shT Try.prog 9 31=Ty.shp (.p I (.p I (.p (.int .u8) (.int .u8)))):=by kernel_rfl
theorem hgood:Go.Dn.Good Try.prog ⟨4,[(.ag,(.p I (.p I (.p (.int .u8) (.int .u8)))))],[(false,.bool)],@t_additivelaw24_RingwalkBoxes wv⟩:=Xn
set_option maxRecDepth 100000 in
theorem lifted (os:Os) (started:os.Started) (H:Type) (enc:TypeId×Value→H) :
  ReturnsInHanded {} Try.checked os 4 .any (Rows.ringwalkBoxesSpec.pre6 enc Try.prog Try.f4 Rows.ringwalkBoxesRow.domain false) (Rows.ringwalkBoxesSpec.post enc Try.prog Try.f4 false true false false):=by
 refine returnsInHanded_of_change (C:=Try.checked) own started (by kernel_rfl) Try.func4
  (ChangeSpec.witness6 (enc:=enc) (C:=Try.checked) false ⟨#[],#[.agg #[.int .i64 0,.int .i64 0,.int .u8 0,.int .u8 0]],[]⟩ 8 (by kernel_rfl) (by kernel_rfl) (by kernel_rfl) (by kernel_rfl)) ?_
 intro W base args ds gs before hval0 hW hcnd _
 have hval:∀(j:Nat) t v,Try.f4.params[j]?=some t→args[j]?=some v→Value.okWide Try.prog W .any base t v:=hval0
 have hW':=hW
 obtain ⟨p,q,hA0,hV,rfl,hfz,hnd⟩:=hW
 have hA:DataW.TrodAll enc Try.prog W 0 (fun _=>true) true Try.f4.params.toList args.toList ds p:=hA0
 rw [Try.params4] at hA hval
 obtain ⟨v0,vs0,d0,ds0,p0,q0,hargs,rfl,rfl,h0,r0⟩:=trodAll_cons hA
 obtain ⟨rfl,rfl,rfl⟩:=trodAll_nil r0
 obtain rfl:args=#[v0]:=by cases args;simp_all
 obtain ⟨rfl,rfl⟩:=trodVars_none hV
 have lt0:∀x∈p0,x.block<W.heap.size:=by obtain ⟨m,hm⟩:=h0;exact DataW.trod_lt m _ _ _ hm
 obtain ⟨c0,rfl⟩:=Jih Try.underlying31 (hval 0 31 v0 rfl rfl)
 obtain ⟨b,wb,e0⟩:=in_agg sh0a sh0 h0
 clear hA0 hval0
 have hcall:=Go.Dn.true_run (aks:=[(.ag,(.p I (.p I (.p (.int .u8) (.int .u8)))))]) (fn:=@t_additivelaw24_RingwalkBoxes wv) hgood (x:=b) (Jrh b (u8_bd wb.2.2.1) (u8_bd wb.2.2.2)) (W:=W) (cargs:=#[.agg c0]) rfl (args1 (e0))
 refine hcall.mono fun e W' hh=>?_
 obtain ⟨he,bel⟩:=hh
 subst he
 exact ⟨_,rfl,_,_,_,[],_,[],hW',trodAll_mk1 (shut_bool Try.underlying4 _),(trodAll_cons_mk (Below.trod laidOut (by kernel_rfl) (of_decide_eq_true (by kernel_rfl)) h0 bel lt0) trodAll_mk0),rfl,bel.frame _,fun h=>by cases h⟩
theorem over:Rows.ringwalkBoxesRow.holds Try.pinned (OpenSpec.ofChange Rows.ringwalkBoxesSpec) :=
 OpenClaim.holds_of_wide 4 Try.f4 rfl rfl rfl rfl rfl rfl rfl ⟨rfl,rfl,rfl,rfl,rfl⟩ rfl rfl rfl rfl rfl (by kernel_rfl) Try.func4 (by kernel_rfl)
  (of_decide_eq_true (by kernel_rfl)) (by unfold Func.isWrapper;first|(rw [if_pos (by decide +kernel)];kernel_rfl)|(rw [if_neg (by decide +kernel)];exact ⟨rfl,rfl⟩))
  (fun os started H enc _=>lifted os started H enc)
theorem proved:Rows.RingwalkBoxesSaid:=over
end Go.Proofs.Ytmfagdfkpjgeiaa.lawRingwalkBoxes
