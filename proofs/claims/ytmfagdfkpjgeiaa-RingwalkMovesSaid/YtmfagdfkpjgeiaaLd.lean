/- the walks of a shifted region are the shifted walks -/
import Derived.Test.YtmfagdfkpjgeiaaRows
import Derived.Test.YtmfagdfkpjgeiaaXE
import Derived.Test.YtmfagdfkpjgeiaaFC
import Derived.ProofKit
namespace Go.Proofs.Ytmfagdfkpjgeiaa.lawRingwalkMoves
open Go Go.Vv Go.Dn Go.Proofs Go.Proofs.Ytmfagdfkpjgeiaa
open Go.ChangeShapes Go.WideShapes Go.ChangeAt Go.RowKit
set_option linter.unusedVariables false
theorem own:ownKnob Try.prog.godebug=none:=by kernel_rfl
theorem laidOut:laidOutB Try.prog=true:=by kernel_rfl
theorem sh0a:(shT Try.prog 9 24).isSome=true:=by kernel_rfl
theorem sh0:shT Try.prog 9 24=Ty.shp (.ls (.p I (.ls (.p I I)))):=by kernel_rfl
theorem hgood:Go.Dn.Good Try.prog ⟨6,[(.ag,(.ls (.p I (.ls (.p I I))))),(.one,.int .i64),(.one,.int .i64)],[(false,.bool)],@t_additivelaw24_RingwalkMoves wv⟩:=Xs
set_option maxRecDepth 100000 in
theorem lifted (os:Os) (started:os.Started) (H:Type) (enc:TypeId×Value→H) :
  ReturnsInHanded {} Try.checked os 6 .any (Rows.ringwalkMovesSpec.pre6 enc Try.prog Try.f6 Rows.ringwalkMovesRow.domain false) (Rows.ringwalkMovesSpec.post enc Try.prog Try.f6 false true false false):=by
 refine returnsInHanded_of_change (C:=Try.checked) own started (by kernel_rfl) Try.func6
  (ChangeSpec.witness6 (enc:=enc) (C:=Try.checked) false ⟨#[],#[.agg #[.slice none 0 0],.int .i64 0,.int .i64 0],[]⟩ 8 (by kernel_rfl) (by kernel_rfl) (by kernel_rfl) (by kernel_rfl)) ?_
 intro W base args ds gs before hval0 hW hcnd _
 have hval:∀(j:Nat) t v,Try.f6.params[j]?=some t→args[j]?=some v→Value.okWide Try.prog W .any base t v:=hval0
 have hW':=hW
 obtain ⟨p,q,hA0,hV,rfl,hfz,hnd⟩:=hW
 have hA:DataW.TrodAll enc Try.prog W 0 (fun _=>true) true Try.f6.params.toList args.toList ds p:=hA0
 rw [Try.params6] at hA hval
 obtain ⟨v0,vs0,d0,ds0,p0,q0,hargs,rfl,rfl,h0,r0⟩:=trodAll_cons hA
 obtain ⟨v1,vs1,d1,ds1,p1,q1,rfl,rfl,rfl,h1,r1⟩:=trodAll_cons r0
 obtain ⟨v2,vs2,d2,ds2,p2,q2,rfl,rfl,rfl,h2,r2⟩:=trodAll_cons r1
 obtain ⟨rfl,rfl,rfl⟩:=trodAll_nil r2
 obtain rfl:args=#[v0,v1,v2]:=by cases args;simp_all
 obtain ⟨rfl,rfl⟩:=trodVars_none hV
 have lt0:∀x∈p0,x.block<W.heap.size:=by obtain ⟨m,hm⟩:=h0;exact DataW.trod_lt m _ _ _ hm
 obtain ⟨c0,rfl⟩:=Jiy Try.underlying24 (hval 0 24 v0 rfl rfl)
 obtain ⟨r,wr,e0⟩:=in_agg sh0a sh0 h0
 obtain ⟨dx,rfl,rfl,rfl,w1⟩:=open_int Try.underlying3 (hval 1 3 v1 rfl rfl) h1
 obtain ⟨dy,rfl,rfl,rfl,w2⟩:=open_int Try.underlying3 (hval 2 3 v2 rfl rfl) h2
 clear hA0 hval0
 have hcall:=Go.Dn.true_run (aks:=[(.ag,(.ls (.p I (.ls (.p I I))))),(.one,.int .i64),(.one,.int .i64)]) (fn:=@t_additivelaw24_RingwalkMoves wv) hgood (x:=(r,(dx,dy))) (Jqy r dx dy (i64_bd w1) (i64_bd w2)) (W:=W) (cargs:=#[.agg c0,.int .i64 dx,.int .i64 dy]) rfl (args3 (e0) (.int _ _) (.int _ _))
 refine hcall.mono fun e W' hh=>?_
 obtain ⟨he,bel⟩:=hh
 subst he
 exact ⟨_,rfl,_,_,_,[],_,[],hW',trodAll_mk1 (shut_bool Try.underlying4 _),(trodAll_cons_mk (Below.trod laidOut (by kernel_rfl) (of_decide_eq_true (by kernel_rfl)) h0 bel lt0) (trodAll_cons_mk (shut_int Try.underlying3 w1) (trodAll_cons_mk (shut_int Try.underlying3 w2) trodAll_mk0))),rfl,bel.frame _,fun h=>by cases h⟩
theorem over:Rows.ringwalkMovesRow.holds Try.pinned (OpenSpec.ofChange Rows.ringwalkMovesSpec) :=
 OpenClaim.holds_of_wide 6 Try.f6 rfl rfl rfl rfl rfl rfl rfl ⟨rfl,rfl,rfl,rfl,rfl⟩ rfl rfl rfl rfl rfl (by kernel_rfl) Try.func6 (by kernel_rfl)
  (of_decide_eq_true (by kernel_rfl)) (by unfold Func.isWrapper;first|(rw [if_pos (by decide +kernel)];kernel_rfl)|(rw [if_neg (by decide +kernel)];exact ⟨rfl,rfl⟩))
  (fun os started H enc _=>lifted os started H enc)
theorem proved:Rows.RingwalkMovesSaid:=over
end Go.Proofs.Ytmfagdfkpjgeiaa.lawRingwalkMoves
