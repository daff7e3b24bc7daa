/- the walks Ji8 the boundary of a region cover exactly the ring of the region -/
import Derived.Test.YtmfagdfkpjgeiaaGreatRows
import Derived.Test.YtmfagdfkpjgeiaaGreatXF
import Derived.Test.YtmfagdfkpjgeiaaGreatFC
import Derived.ProofKit
set_option linter.unusedVariables false
namespace Go.Proofs.YtmfagdfkpjgeiaaGreat.lawRingwalkCovers
open Go Go.Vv Go.Dn Go.Proofs Go.Proofs.YtmfagdfkpjgeiaaGreat
open Go.ChangeShapes Go.WideShapes Go.ChangeAt Go.RowKit
theorem own:ownKnob Tryz.prog.godebug=none:=by kernel_rfl
theorem laidOut:laidOutB Tryz.prog=true:=by kernel_rfl
theorem sh0a:(shT Tryz.prog 9 24).isSome=true:=by kernel_rfl
theorem sh0:shT Tryz.prog 9 24=Ty.shp (.ls (.p I (.ls (.p I I)))):=by kernel_rfl
theorem hgood:Go.Dn.Good Tryz.prog ⟨5,[(.ag,(.ls (.p I (.ls (.p I I)))))],[(false,.bool)],@J0 wv⟩:=z7
set_option maxRecDepth 100000 in
theorem lifted (os:Os) (started:os.Started) (H:Type) (enc:TypeId×Value→H) :
  ReturnsInHanded {} Tryz.checked os 5 .any (Rows.ringwalkCoversSpec.pre6 enc Tryz.prog Tryz.f5 Rows.ringwalkCoversRow.domain false) (Rows.ringwalkCoversSpec.post enc Tryz.prog Tryz.f5 false true false false):=by
 refine returnsInHanded_of_change (C:=Tryz.checked) own started (by kernel_rfl) Tryz.func5
  (ChangeSpec.witness6 (enc:=enc) (C:=Tryz.checked) false ⟨#[],#[.agg #[.slice none 0 0]],[]⟩ 8 (by kernel_rfl) (by kernel_rfl) (by kernel_rfl) (by kernel_rfl)) ?_
 intro W base args ds gs before hval0 hW hcnd _
 have hval:∀(j:Nat) t v,Tryz.f5.params[j]?=some t→args[j]?=some v→Value.okWide Tryz.prog W .any base t v:=hval0
 have hW':=hW
 obtain ⟨p,q,hA0,hV,rfl,hfz,hnd⟩:=hW
 have hA:DataW.TrodAll enc Tryz.prog W 0 (fun _=>true) true Tryz.f5.params.toList args.toList ds p:=hA0
 rw [Tryz.params5] at hA hval
 obtain ⟨v0,vs0,d0,ds0,p0,q0,hargs,rfl,rfl,h0,r0⟩:=trodAll_cons hA
 obtain ⟨rfl,rfl,rfl⟩:=trodAll_nil r0
 obtain rfl:args=#[v0]:=by cases args;simp_all
 obtain ⟨rfl,rfl⟩:=trodVars_none hV
 have lt0:∀x∈p0,x.block<W.heap.size:=by obtain ⟨m,hm⟩:=h0;exact DataW.trod_lt m _ _ _ hm
 obtain ⟨c0,rfl⟩:=Jnq Tryz.underlying24 (hval 0 24 v0 rfl rfl)
 obtain ⟨r,wr,e0⟩:=in_agg sh0a sh0 h0
 clear hA0 hval0
 have hcall:=Go.Dn.true_run (aks:=[(.ag,(.ls (.p I (.ls (.p I I)))))]) (fn:=@J0 wv) hgood (x:=r) (Jtk r) (W:=W) (cargs:=#[.agg c0]) rfl (args1 (e0))
 refine hcall.mono fun e W' hh=>?_
 obtain ⟨he,bel⟩:=hh
 subst he
 exact ⟨_,rfl,_,_,_,[],_,[],hW',trodAll_mk1 (shut_bool Tryz.underlying4 _),(trodAll_cons_mk (Below.trod laidOut (by kernel_rfl) (of_decide_eq_true (by kernel_rfl)) h0 bel lt0) trodAll_mk0),rfl,bel.frame _,fun h=>by cases h⟩
theorem over:Rows.ringwalkCoversRow.holds Tryz.pinned (OpenSpec.ofChange Rows.ringwalkCoversSpec) :=
 OpenClaim.holds_of_wide 5 Tryz.f5 rfl rfl rfl rfl rfl rfl rfl ⟨rfl,rfl,rfl,rfl,rfl⟩ rfl rfl rfl rfl rfl (by kernel_rfl) Tryz.func5 (by kernel_rfl)
  (of_decide_eq_true (by kernel_rfl)) (by unfold Func.isWrapper;first|(rw [if_pos (by decide +kernel)];kernel_rfl)|(rw [if_neg (by decide +kernel)];exact ⟨rfl,rfl⟩))
  (fun os started H enc _=>lifted os started H enc)
theorem proved:Rows.RingwalkCoversSaid:=over
end Go.Proofs.YtmfagdfkpjgeiaaGreat.lawRingwalkCovers
