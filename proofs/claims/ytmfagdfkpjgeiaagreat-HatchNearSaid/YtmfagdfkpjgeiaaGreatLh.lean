/- the tracks of Pattern are valid, cover only cells of the region, no cell twice, and no cell of the region is farther than spacing from them, for any region (at most 12 rows of 4 runs, which are cut to 20 cells), kind, spacing and layer -/
import Derived.Test.YtmfagdfkpjgeiaaGreatRows
import Derived.Test.YtmfagdfkpjgeiaaGreatXI
import Derived.Test.YtmfagdfkpjgeiaaGreatFC
import Derived.ProofKit
open Option renaming none -> AD, some -> AC
open Bool renaming true -> AE, false -> AF
open _root_ renaming Nat -> AM, if_neg -> AR, if_pos -> AS
set_option linter.unusedVariables false
namespace Go.Proofs.YtmfagdfkpjgeiaaGreat.lawHatchNear
open Go Go.Vv Go.Dn Go.Proofs Go.Proofs.YtmfagdfkpjgeiaaGreat
open Go.ChangeShapes Go.WideShapes Go.ChangeAt Go.RowKit
theorem own:ownKnob Tryz.prog.godebug=AD:=by kernel_rfl
theorem laidOut:laidOutB Tryz.prog=AE:=by kernel_rfl
theorem sh0a:(UH Tryz.prog 9 24).isSome=AE:=by kernel_rfl
theorem sh0:UH Tryz.prog 9 24=Ty.M7 (.ls (.p I (.ls (.p I I)))):=by kernel_rfl
theorem hgood:Go.Dn.Good Tryz.prog ⟨11,[(.ag,(.ls (.p I (.ls (.p I I))))),(.one,.int .i64),(.one,.int .i64),(.one,.int .i64)],[(AF,.bool)],@Kw wv⟩:=Jfn
set_option maxRecDepth 100000 in
theorem lifted(os:Os)(started:os.Started)(H:Type)(enc:TypeId×Value->H) :
  ReturnsInHanded {} Tryz.checked os 11 .any (Rows.hatchNearSpec.pre6 enc Tryz.prog Tryz.f11 Rows.hatchNearRow.domain AF) (Rows.hatchNearSpec.post enc Tryz.prog Tryz.f11 AF AE AF AF):=by
 refine returnsInHanded_of_change (C:=Tryz.checked) own started (by kernel_rfl) Tryz.func11
  (ChangeSpec.witness6 (enc:=enc) (C:=Tryz.checked) AF ⟨#[],#[.agg #[.slice AD 0 0],.int .i64 0,.int .i64 0,.int .i64 0],[]⟩ 8 (by kernel_rfl) (by kernel_rfl) (by kernel_rfl) (by kernel_rfl)) ?_
 intro W base args ds gs before d hW w _;have a:∀(j:AM) t v,Tryz.f11.params[j]?=AC t->args[j]?=AC v->Value.okWide Tryz.prog W .any base t v:=d;have hW':=hW;obtain ⟨p,q,hA0,hV,rfl,O,L⟩:=hW;have hA:DataW.TrodAll enc Tryz.prog W 0 (λ_=>AE) AE Tryz.f11.params.toList args.toList ds p:=hA0;rw [Tryz.params11] at hA a;obtain ⟨v0,vs0,d0,ds0,K,q0,g,rfl,rfl,l,J⟩:=trodAll_cons hA;obtain ⟨v1,vs1,d1,ds1,p1,q1,rfl,rfl,rfl,X,G⟩:=trodAll_cons J;obtain ⟨v2,vs2,d2,ds2,p2,q2,rfl,rfl,rfl,R,F⟩:=trodAll_cons G;obtain ⟨v3,vs3,d3,ds3,p3,Z,rfl,rfl,rfl,Q,E⟩:=trodAll_cons F;obtain ⟨rfl,rfl,rfl⟩:=trodAll_nil E;obtain rfl:args=#[v0,v1,v2,v3]:=by cases args;simp_all
 obtain ⟨rfl,rfl⟩:=trodVars_none hV;have lt0:∀x∈K,x.block<W.heap.size:=by obtain ⟨m,M⟩:=l;exact DataW.trod_lt m _ _ _ M
 obtain ⟨c0,rfl⟩:=Ju7 Tryz.underlying24 (a 0 24 v0 rfl rfl);obtain ⟨r,wr,Y⟩:=gL sh0a sh0 l;obtain ⟨k,rfl,rfl,rfl,w1⟩:=open_int Tryz.underlying3 (a 1 3 v1 rfl rfl) X;obtain ⟨s,rfl,rfl,rfl,B⟩:=open_int Tryz.underlying3 (a 2 3 v2 rfl rfl) R;obtain ⟨y,rfl,rfl,rfl,A⟩:=open_int Tryz.underlying3 (a 3 3 v3 rfl rfl) Q;clear hA0 d;have f:=Go.Dn.Nj (aks:=[(.ag,(.ls (.p I (.ls (.p I I))))),(.one,.int .i64),(.one,.int .i64),(.one,.int .i64)]) (fn:=@Kw wv) hgood (x:=(r,(k,(s,y)))) (J6p r k s y) (W:=W) (cargs:=#[.agg c0,.int .i64 k,.int .i64 s,.int .i64 y]) rfl (qc (Y) (.int _ _) (.int _ _) (.int _ _));refine f.mono λe W' N=>?_;obtain ⟨P,bel⟩:=N;subst P;exact ⟨_,rfl,_,_,_,[],_,[],hW',trodAll_mk1 (shut_bool Tryz.underlying4 _),(trodAll_cons_mk (Below.trod laidOut (by kernel_rfl) (of_decide_eq_true (by kernel_rfl)) l bel lt0) (trodAll_cons_mk (shut_int Tryz.underlying3 w1) (trodAll_cons_mk (shut_int Tryz.underlying3 B) (trodAll_cons_mk (shut_int Tryz.underlying3 A) trodAll_mk0)))),rfl,bel.frame _,λh=>by cases h⟩
theorem over:Rows.hatchNearRow.holds Tryz.pinned (OpenSpec.ofChange Rows.hatchNearSpec):=
 OpenClaim.holds_of_wide 11 Tryz.f11 rfl rfl rfl rfl rfl rfl rfl ⟨rfl,rfl,rfl,rfl,rfl⟩ rfl rfl rfl rfl rfl (by kernel_rfl) Tryz.func11 (by kernel_rfl)
  (of_decide_eq_true (by kernel_rfl)) (by unfold Func.isWrapper;first|(rw [AS (by decide +kernel)];kernel_rfl)|(rw [AR (by decide +kernel)];exact ⟨rfl,rfl⟩))
  (λos started H enc _=>lifted os started H enc)
theorem proved:Rows.HatchNearSaid:=over
end Go.Proofs.YtmfagdfkpjgeiaaGreat.lawHatchNear
