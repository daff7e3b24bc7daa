/- the walls and the rest are those of the chapter -/
import Derived.Test.YtmfagdfkpjgeiaaGreatRows
import Derived.Test.YtmfagdfkpjgeiaaGreatXK
import Derived.Test.YtmfagdfkpjgeiaaGreatFC
import Derived.ProofKit
set_option linter.unusedVariables false
namespace Go.Proofs.YtmfagdfkpjgeiaaGreat.lawWallsTracks
open Go Go.Vv Go.Dn Go.Proofs Go.Proofs.YtmfagdfkpjgeiaaGreat
open Go.ChangeShapes Go.WideShapes Go.ChangeAt Go.RowKit
theorem own:ownKnob Tryz.prog.godebug=none:=by kernel_rfl
theorem laidOut:laidOutB Tryz.prog=true:=by kernel_rfl
theorem zC:(UM Tryz.prog 9 24).isSome=true:=by kernel_rfl
theorem sh0:UM Tryz.prog 9 24=Ty.NP (.ls (.p I (.ls (.p I I)))):=by kernel_rfl
theorem hgood:Go.Dn.Good Tryz.prog ⟨6,[(.ag,(.ls (.p I (.ls (.p I I))))),(.one,.int .i64)],[(false,.bool)],@Kz wv⟩:=Jfs
set_option maxRecDepth 100000 in
theorem lifted(os:Os)(started:os.Started)(H:Type)(enc:TypeId×Value->H) :
  ReturnsInHanded {} Tryz.checked os 6 .any (Rows.wallsTracksSpec.pre6 enc Tryz.prog Tryz.f6 Rows.wallsTracksRow.domain false) (Rows.wallsTracksSpec.post enc Tryz.prog Tryz.f6 false true false false):=by
 refine returnsInHanded_of_change (C:=Tryz.checked) own started (by kernel_rfl) Tryz.func6
  (ChangeSpec.witness6 (enc:=enc) (C:=Tryz.checked) false ⟨#[],#[.agg #[.slice none 0 0],.int .i64 0],[]⟩ 8 (by kernel_rfl) (by kernel_rfl) (by kernel_rfl) (by kernel_rfl)) ?_
 intro W base args ds gs before a hW o _;have d:∀(j:Nat) t v,Tryz.f6.params[j]?=some t->args[j]?=some v->Value.okWide Tryz.prog W .any base t v:=a;have hW':=hW;obtain ⟨p,q,hA0,hV,rfl,G,B⟩:=hW;have hA:DataW.TrodAll enc Tryz.prog W 0 (λ_=>true) true Tryz.f6.params.toList args.toList ds p:=hA0;rw [Tryz.params6] at hA d;obtain ⟨v0,vs0,d0,ds0,A,N,g,rfl,rfl,l,y⟩:=trodAll_cons hA;obtain ⟨v1,vs1,P,ds1,O,M,rfl,rfl,rfl,K,w⟩:=trodAll_cons y;obtain ⟨rfl,rfl,rfl⟩:=trodAll_nil w;obtain rfl:args=#[v0,v1]:=by cases args;simp_all
 obtain ⟨rfl,rfl⟩:=trodVars_none hV;have lt0:∀x∈A,x.block<W.heap.size:=by obtain ⟨m,E⟩:=l;exact DataW.trod_lt m _ _ _ E
 obtain ⟨c0,rfl⟩:=Jwr Tryz.underlying24 (d 0 24 v0 rfl rfl);obtain ⟨r,wr,L⟩:=fA zC sh0 l;obtain ⟨n,rfl,rfl,rfl,w1⟩:=open_int Tryz.underlying3 (d 1 3 v1 rfl rfl) K;clear hA0 a;have f:=Go.Dn.Nr (aks:=[(.ag,(.ls (.p I (.ls (.p I I))))),(.one,.int .i64)]) (fn:=@Kz wv) hgood (x:=(r,n)) (Jw1 r n (bq wr.2) (fB w1)) (W:=W) (cargs:=#[.agg c0,.int .i64 n]) rfl (args2 (L) (.int _ _));refine f.mono λe W' F=>?_;obtain ⟨J,bel⟩:=F;subst J;exact ⟨_,rfl,_,_,_,[],_,[],hW',trodAll_mk1 (shut_bool Tryz.underlying4 _),(trodAll_cons_mk (Below.trod laidOut (by kernel_rfl) (of_decide_eq_true (by kernel_rfl)) l bel lt0) (trodAll_cons_mk (shut_int Tryz.underlying3 w1) trodAll_mk0)),rfl,bel.frame _,λh=>by cases h⟩
theorem over:Rows.wallsTracksRow.holds Tryz.pinned (OpenSpec.ofChange Rows.wallsTracksSpec):=
 OpenClaim.holds_of_wide 6 Tryz.f6 rfl rfl rfl rfl rfl rfl rfl ⟨rfl,rfl,rfl,rfl,rfl⟩ rfl rfl rfl rfl rfl (by kernel_rfl) Tryz.func6 (by kernel_rfl)
  (of_decide_eq_true (by kernel_rfl)) (by unfold Func.isWrapper;first|(rw [if_pos (by decide +kernel)];kernel_rfl)|(rw [if_neg (by decide +kernel)];exact ⟨rfl,rfl⟩))
  (λos started H enc _=>lifted os started H enc)
theorem proved:Rows.WallsTracksSaid:=over
end Go.Proofs.YtmfagdfkpjgeiaaGreat.lawWallsTracks
