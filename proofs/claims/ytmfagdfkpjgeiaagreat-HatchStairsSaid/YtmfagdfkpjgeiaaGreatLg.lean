/- Pattern of staircases covers every cell of the region whose sum of coordinates has the remainder 0 or 1 by twice the spacing, first of all by tracks that lead alternately to the right and downward, for any region (at most 12 rows of 4 runs, which are cut to 20 cells), spacing, layer and cell -/
import Derived.Test.YtmfagdfkpjgeiaaGreatRows
import Derived.Test.YtmfagdfkpjgeiaaGreatXF
import Derived.Test.YtmfagdfkpjgeiaaGreatFC
import Derived.ProofKit
set_option linter.unusedVariables false
namespace Go.Proofs.YtmfagdfkpjgeiaaGreat.lawHatchStairs
open Go Go.Vv Go.Dn Go.Proofs Go.Proofs.YtmfagdfkpjgeiaaGreat
open Go.ChangeShapes Go.WideShapes Go.ChangeAt Go.RowKit
theorem own:ownKnob Tryz.prog.godebug=none:=by kernel_rfl
theorem laidOut:laidOutB Tryz.prog=true:=by kernel_rfl
theorem sh0a:(shT Tryz.prog 9 24).isSome=true:=by kernel_rfl
theorem sh0:shT Tryz.prog 9 24=Ty.shp (.ls (.p I (.ls (.p I I)))):=by kernel_rfl
theorem sh3a:(shT Tryz.prog 9 32).isSome=true:=by kernel_rfl
theorem sh3:shT Tryz.prog 9 32=Ty.shp (.p I I):=by kernel_rfl
theorem hgood:Go.Dn.Good Tryz.prog ⟨4,[(.ag,(.ls (.p I (.ls (.p I I))))),(.one,.int .i64),(.one,.int .i64),(.ag,(.p I I))],[(false,.bool)],@J1 wv⟩:=Jaa
set_option maxRecDepth 100000 in
theorem lifted(os:Os)(started:os.Started)(H:Type)(enc:TypeId×Value->H) :
  ReturnsInHanded {} Tryz.checked os 4 .any (Rows.hatchStairsSpec.pre6 enc Tryz.prog Tryz.f4 Rows.hatchStairsRow.domain false) (Rows.hatchStairsSpec.post enc Tryz.prog Tryz.f4 false true false false):=by
 refine returnsInHanded_of_change (C:=Tryz.checked) own started (by kernel_rfl) Tryz.func4
  (ChangeSpec.witness6 (enc:=enc) (C:=Tryz.checked) false ⟨#[],#[.agg #[.slice none 0 0],.int .i64 0,.int .i64 0,.agg #[.int .i64 0,.int .i64 0]],[]⟩ 8 (by kernel_rfl) (by kernel_rfl) (by kernel_rfl) (by kernel_rfl)) ?_
 intro W base args ds gs before d hW A _;have a:∀(j:Nat) t v,Tryz.f4.params[j]?=some t->args[j]?=some v->Value.okWide Tryz.prog W .any base t v:=d;have hW':=hW;obtain ⟨p,q,hA0,hV,rfl,O,M⟩:=hW;have hA:DataW.TrodAll enc Tryz.prog W 0 (λ_=>true) true Tryz.f4.params.toList args.toList ds p:=hA0;rw [Tryz.params4] at hA a;obtain ⟨v0,vs0,d0,ds0,L,q0,l,rfl,rfl,w,J⟩:=trodAll_cons hA;obtain ⟨v1,vs1,d1,ds1,p1,q1,rfl,rfl,rfl,R,G⟩:=trodAll_cons J;obtain ⟨v2,vs2,d2,ds2,p2,q2,rfl,rfl,rfl,Q,F⟩:=trodAll_cons G;obtain ⟨v3,vs3,d3,ds3,K,q3,rfl,rfl,rfl,o,E⟩:=trodAll_cons F;obtain ⟨rfl,rfl,rfl⟩:=trodAll_nil E;obtain rfl:args=#[v0,v1,v2,v3]:=by cases args;simp_all
 obtain ⟨rfl,rfl⟩:=trodVars_none hV;have lt0:∀x∈L,x.block<W.heap.size:=by obtain ⟨m,g⟩:=w;exact DataW.trod_lt m _ _ _ g
 obtain ⟨c0,rfl⟩:=Je9 Tryz.underlying24 (a 0 24 v0 rfl rfl);obtain ⟨r,wr,Y⟩:=in_agg sh0a sh0 w;obtain ⟨s,rfl,rfl,rfl,w1⟩:=open_int Tryz.underlying3 (a 1 3 v1 rfl rfl) R;obtain ⟨y,rfl,rfl,rfl,B⟩:=open_int Tryz.underlying3 (a 2 3 v2 rfl rfl) Q;have lt3:∀x∈K,x.block<W.heap.size:=by obtain ⟨m,g⟩:=o;exact DataW.trod_lt m _ _ _ g
 obtain ⟨Z,rfl⟩:=Je9 Tryz.underlying32 (a 3 32 v3 rfl rfl);obtain ⟨c,wc,X⟩:=in_agg sh3a sh3 o;clear hA0 d;have f:=Go.Dn.true_run (aks:=[(.ag,(.ls (.p I (.ls (.p I I))))),(.one,.int .i64),(.one,.int .i64),(.ag,(.p I I))]) (fn:=@J1 wv) hgood (x:=(r,(s,(y,c)))) (Jsh r s y c) (W:=W) (cargs:=#[.agg c0,.int .i64 s,.int .i64 y,.agg Z]) rfl (args4 (Y) (.int _ _) (.int _ _) (X));refine f.mono λe W' N=>?_;obtain ⟨P,bel⟩:=N;subst P;exact ⟨_,rfl,_,_,_,[],_,[],hW',trodAll_mk1 (shut_bool Tryz.underlying4 _),(trodAll_cons_mk (Below.trod laidOut (by kernel_rfl) (of_decide_eq_true (by kernel_rfl)) w bel lt0) (trodAll_cons_mk (shut_int Tryz.underlying3 w1) (trodAll_cons_mk (shut_int Tryz.underlying3 B) (trodAll_cons_mk (Below.trod laidOut (by kernel_rfl) (of_decide_eq_true (by kernel_rfl)) o bel lt3) trodAll_mk0)))),rfl,bel.frame _,λh=>by cases h⟩
theorem over:Rows.hatchStairsRow.holds Tryz.pinned (OpenSpec.ofChange Rows.hatchStairsSpec):=
 OpenClaim.holds_of_wide 4 Tryz.f4 rfl rfl rfl rfl rfl rfl rfl ⟨rfl,rfl,rfl,rfl,rfl⟩ rfl rfl rfl rfl rfl (by kernel_rfl) Tryz.func4 (by kernel_rfl)
  (of_decide_eq_true (by kernel_rfl)) (by unfold Func.isWrapper;first|(rw [if_pos (by decide +kernel)];kernel_rfl)|(rw [if_neg (by decide +kernel)];exact ⟨rfl,rfl⟩))
  (λos started H enc _=>lifted os started H enc)
theorem proved:Rows.HatchStairsSaid:=over
end Go.Proofs.YtmfagdfkpjgeiaaGreat.lawHatchStairs
