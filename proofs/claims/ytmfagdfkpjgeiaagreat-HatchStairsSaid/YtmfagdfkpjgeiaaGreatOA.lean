/- Appending to a value of a map: 'm[k] = append(m[k], x)' in a function of its own. Conditions: none. -/
import Derived.Test.YtmfagdfkpjgeiaaGreatFD
import Derived.Test.YtmfagdfkpjgeiaaGreatDA
import Derived.WideKeyEntry
import Derived.Shelf.SlicesE.Delete
set_option linter.unusedVariables false
set_option linter.unusedSimpArgs false
namespace Go.Dn
open Go Go.Vv
section
variable {P:Program} {w w':World} {S S1:Nat->Prop} {h:Heap} {μ:Gh}
abbrev mL(k:(Ty.p I I).T)(es:List ((Ty.p I I).T×List Int)):List Int:=(Jbs (a:=.p I I) (b:=.ls I) k es).getD []
theorem ents_evo{S':Nat->Prop}{h':Heap}{μ':Gh}{es:List (AV×AV)}{es':List MapEntry}(f:EntsOK w S h μ es es')(d:RepH w S h μ)(ev:Evo w S h μ w' S' h' μ')(vv:EvoV h μ h' μ'):EntsOK w' S' h' μ' es es':=
 ⟨f.1,λi k v g=>by obtain ⟨e,a,b,c⟩:=f.2 i k v g;exact ⟨e,a,b.evo d ev,c.evo d ev vv⟩⟩
structure AddT (P:Program) (mt kT hT sT:TypeId) (bytes:Nat):Prop where
 hag:aggT P kT=some true
 hsz:szT P kT=some 2
 hsh:eqSh P 6 kT=some [false,false]
 hu:P.underlying sT=some (.slice hT)
 hi:∃i,P.info? hT=some i/\i.size=1/\i.bytes=bytes/\i.zero.isSome=true
 hz:zc P hT=some [.int .i64 0]
 ht:P.underlying mt=some (.map kT sT)
 hzs:zvC P sT=some .nils
def Jr8:Code->List Oper
 | .region _ ops _=>ops.toList
 | .seq a b=>Jr8 a++Jr8 b
 | _=>[]
def opAt(l:List Oper)(i:Nat)(dst:Option Tmp)(op:Op):Oper:={ l.getD i default with dst:=dst,op:=op,guard:=none }
def addCode(mt kT hT sT:TypeId)(l:List Oper):Code:=
 .seq (.region 0 #[opAt l 0 (some 4) (.box kT (.tmp 1))] false)
  (.region 1 #[opAt l 1 (some 6) (.move (.tmp 0)),opAt l 2 (some 7) (.load kT (.tmp 4)),opAt l 3 (some 9) (.move (.tmp 2)),opAt l 4 (some 10) (.buildSlice sT 1 #[(0,.tmp 9)]),
   opAt l 5 (some 11) (.mapEntry mt (.tmp 6) (.tmp 7)),opAt l 6 (some 8) (.extract (.tmp 11) 0),{ opAt l 7 (some 12) (.call ⟨.builtin .append,#[.tmp 8,.tmp 10],#[sT,sT]⟩) with type:=sT },
   opAt l 8 (some 13) (.extract (.tmp 11) 1),opAt l 9 none (.entryStore mt (.tmp 6) (.tmp 13) (.tmp 12))] false)
structure AddF (P:Program) (id:FuncId) (mt kT hT sT:TypeId):Prop where
 lt:Nat.ble yB id=false
 fn : ∃ fn c, P.funcs[id]? = some fn /\ fn.body = some c /\ c = addCode mt kT hT sT (Jr8 c) /\ fn.ntmps = 14 /\ fn.results = #[] /\ (fn.name == "runtime.NumGoroutine") = false
end
def opAf(l:List Oper)(i:Nat)(dst:Option Tmp)(op:Op)(af:Array Edge):Oper:={ l.getD i default with dst:=dst,op:=op,guard:=none,after:=af }
def takeOps(mt kT hT sT iT:TypeId)(cl dl:FuncId)(l:List Oper):Array Oper:=
 #[opAf l 0 (some 22) (.move (.tmp 0)) #[],opAf l 1 (some 23) (.load kT (.tmp 4)) #[],opAf l 2 (some 24) (.move (.tmp 0)) #[],opAf l 3 (some 25) (.load kT (.tmp 4)) #[],
  opAf l 4 (some 26) (.lookup mt (.tmp 24) (.tmp 25) false) #[⟨2,.data⟩,⟨3,.data⟩],opAf l 5 (some 27) (.call ⟨.value (.func cl),#[.tmp 26],#[sT]⟩) #[⟨4,.data⟩],
  opAf l 6 (some 28) (.move (.tmp 7)) #[],opAf l 7 (some 29) (.move (.tmp 7)) #[],opAf l 8 (some 30) (.binOp .add iT (.tmp 29) (.const (.int .i64 1)) iT) #[⟨7,.data⟩],
  opAf l 9 (some 31) (.call ⟨.value (.func dl),#[.tmp 27,.tmp 28,.tmp 30],#[sT,iT,iT]⟩) #[⟨5,.data⟩,⟨6,.data⟩,⟨8,.data⟩,⟨5,.chain⟩],
  opAf l 10 none (.mapUpdate mt (.tmp 22) (.tmp 23) (.tmp 31)) #[⟨0,.data⟩,⟨1,.data⟩,⟨9,.data⟩,⟨9,.chain⟩,⟨0,.phase⟩,⟨1,.phase⟩,⟨2,.phase⟩,⟨3,.phase⟩,⟨4,.phase⟩,⟨5,.phase⟩,⟨6,.phase⟩,⟨7,.phase⟩,⟨8,.phase⟩,⟨9,.phase⟩]]
section
variable {P:Program} {w:World}
variable {mt kT hT sT iT:TypeId} {cl dl:FuncId} {l:List Oper}
structure TA (a0 a:Act):Prop where
 sz:a.tmps.size=a0.tmps.size
 df:a.defers=a0.defers
 fr:∀d,d<22->a.tmps.getD d undef=a0.tmps.getD d undef
theorem TA.put{a0 a:Act}(h:TA a0 a){d:Nat}(hd:22<=d)(hs:d<a.tmps.size)(v:Value):TA a0 (a.put (some d) v):=
 ⟨by rw [Qk];exact h.sz,by rw [K3];exact h.df,λe f=>by rw [Qs _ _ hs,if_neg (by omega)];exact h.fr e f⟩
section
variable {ops:Array Oper} {Q:Exit->Act->World->Prop} {a:Act} {w':World} {fuel:Nat} {listed:Array Bool}
end
structure ES (a0:Act) (cm:Value) (i j:Int) (a:Act):Prop where
 ta:TA a0 a
 e22:a.tmps.getD 22 undef=cm
 e24:a.tmps.getD 24 undef=cm
 e28:a.tmps.getD 28 undef=.int .i64 i
 e30:a.tmps.getD 30 undef=.int .i64 j
theorem ES.put{a0 a:Act}{cm:Value}{i j:Int}(h:ES a0 cm i j a)(f:32<=a0.tmps.size){d:Nat}(hd:22<=d)(l:d<32)(w:d≠22)(r:d≠24)(o:d≠28)(m:d≠30)(v:Value):ES a0 cm i j (a.put (some d) v)/\∀e,(a.put (some d) v).tmps.getD e undef=if e=d then v else a.tmps.getD e undef:=by
 have hs:d<a.tmps.size:=by rw [h.ta.sz];omega
 have g:∀e,(a.put (some d) v).tmps.getD e undef=if e=d then v else a.tmps.getD e undef:=λe=>Qs _ _ hs e;exact ⟨⟨h.ta.put hd hs v,by rw [g,if_neg (λe=>w e.symm)];exact h.e22,by rw [g,if_neg (λe=>r e.symm)];exact h.e24,by rw [g,if_neg (λe=>o e.symm)];exact h.e28,by rw [g,if_neg (λe=>m e.symm)];exact h.e30⟩,g⟩
def Jq9(id:Nat):Code->List Oper
 | .region i ops _=>if i=id then ops.toList else []
 | .seq a b=>Jq9 id a++Jq9 id b
 | .cond _ a b=>Jq9 id a++Jq9 id b
 | _=>[]
def takeCode(mt kT hT sT iT bT:TypeId)(ix cl dl:FuncId)(r:Nat->List Oper):Code:=
 .seq (.region 0 #[opAt (r 0) 0 (some 4) (.box kT (.tmp 1)),opAt (r 0) 1 (some 6) (.assign (.const (.bool false)))] false)
  (.seq (.region 1 #[opAt (r 1) 0 (some 8) (.move (.tmp 0)),opAt (r 1) 1 (some 9) (.load kT (.tmp 4)),opAt (r 1) 2 (some 10) (.lookup mt (.tmp 8) (.tmp 9) false),opAt (r 1) 3 (some 11) (.move (.tmp 2)),opAt (r 1) 4 (some 12) (.call ⟨.value (.func ix),#[.tmp 10,.tmp 11],#[sT,hT]⟩),opAt (r 1) 5 (some 7) (.assign (.tmp 12))] false)
   (.seq (.seq (.region 2 #[opAt (r 2) 0 (some 13) (.move (.tmp 7)),opAt (r 2) 1 (some 14) (.binOp .lss iT (.tmp 13) (.const (.int .i64 0)) iT)] false)
     (.cond (.tmp 14) (.seq (.region 3 #[opAt (r 3) 0 (some 6) (.assign (.const (.bool false)))] false) .ret) .skip))
    (.seq (.seq (.region 4 #[opAt (r 4) 0 (some 15) (.move (.tmp 0)),opAt (r 4) 1 (some 16) (.load kT (.tmp 4)),opAt (r 4) 2 (some 17) (.lookup mt (.tmp 15) (.tmp 16) false),{ opAt (r 4) 3 (some 18) (.call ⟨.builtin .len,#[.tmp 17],#[sT]⟩) with type:=iT },opAt (r 4) 4 (some 19) (.binOp .eql iT (.tmp 18) (.const (.int .i64 1)) iT)] false)
      (.cond (.tmp 19) (.region 5 #[opAt (r 5) 0 (some 20) (.move (.tmp 0)),opAt (r 5) 1 (some 21) (.load kT (.tmp 4)),opAt (r 5) 2 none (.call ⟨.builtin .delete,#[.tmp 20,.tmp 21],#[mt,kT]⟩)] false) (.region 6 (takeOps mt kT hT sT iT cl dl (r 6)) true)))
     (.seq (.region 7 #[opAt (r 7) 0 (some 6) (.assign (.const (.bool true)))] false) .ret))))
structure TakeF (P:Program) (id ix cl dl:FuncId) (mt kT hT sT iT bT:TypeId):Prop where
 lt:Nat.ble yB id=false
 fn : ∃ fn c, P.funcs[id]? = some fn /\ fn.body = some c /\ c = takeCode mt kT hT sT iT bT ix cl dl (λi => Jq9 i c) /\ fn.ntmps = 32 /\ fn.results = #[.tmp 6] /\ (fn.name == "runtime.NumGoroutine") = false
end
section
variable {nt:Nat} {w w':World} {S:Nat->Prop} {s:Dn.S Ty.T} {μ:Gh} {a:Act} {fs:List Fm}
theorem RepF.pin(hF:RepF nt w S s μ a fs)(o:Old w w'){b:Nat}(m:w.heap.size<=b)(l:b<w'.heap.size):RepF nt w' (λq=>S q\/q=b) s μ a fs/\Evo w S (encH s) μ w' (λq=>S q\/q=b) (encH s) μ:=by
 have ev:Evo w S (encH s) μ w' (λq=>S q\/q=b) (encH s) μ:=
  ⟨o.os,o.tape,o.output,o.size,λb m _=>o.keep b m,λb cs el z r=>⟨cs,(o.keep b (Array.getElem?_eq_some_iff.1 r).1).trans r,rfl⟩,λ_ h=>.inl h,λq h=>by rcases h with h|rfl;exact .inl h;exact .inr (.inl m),λ_ h=>.inl h,rfl⟩
 have y:RepH w' (λq=>S q\/q=b) (encH s) μ:=by
  refine ⟨λg ob e=>(hF.fr.hp.ob g ob e).evo hF.fr.hp ev (.refl _ _) λhl=>o.keep _ ((hF.fr.hp.ob g ob e).lt hl),hF.fr.hp.inj,λg ob e v hl hs=>?_,λq f=>?_⟩
  ·rcases hs with hs|hs
   ·exact hF.fr.hp.own g ob e v hl hs
   ·have:=(hF.fr.hp.ob g ob e).lt hl;omega
  ·rcases f with f|rfl
   ·exact Nat.lt_of_lt_of_le (hF.fr.hp.lt q f) o.size
   ·exact l
 exact ⟨hF.step rfl ⟨λd=>(hF.fr.fr d).evo hF.fr.hp ev (.refl _ _),y,hF.fr.hp.marks hF.fr.df ev,hF.fr.sz⟩ (.refl s) hF.iv ev (.refl _ _),ev⟩
theorem RepF.mp(hF:RepF nt w S s μ a fs){g ver:Nat}{kt vt:Ty}{es es':List (kt.T×vt.T)}(m:look g s.ob=some (.mp ver kt vt es))(o:Ran w S (encH s) μ (.tup []) (upd (encH s) g (some (.map ver (encE kt vt es') false))) (.tuple #[]) w') :
  ∃S' μ',RepF nt w' S' (s.obj g (.mp ver kt vt es')) μ' a fs/\Evo w S (encH s) μ w' S' (encH (s.obj g (.mp ver kt vt es'))) μ':=by
 obtain ⟨S',μ',-,l,ev,vv⟩:=o;have st:Stab s (s.obj g (.mp ver kt vt es')):=X0 λv e=>by rw [m] at e;injection e with e;subst e;exact ⟨rfl,rfl⟩
 have iv:Inv (s.obj g (.mp ver kt vt es')):=ju hF.iv st (λh=>Ke g h _) (λc r=>by cases r) (hF.iv.free m);have f:=Yw hF.iv st (λh=>Ke g h _);have f:encH (s.obj g (.mp ver kt vt es'))=upd (encH s) g (some (.map ver (encE kt vt es') false)):=f;rw [<-f] at l ev vv;refine ⟨S',μ',hF.step rfl ⟨λd=>?_,l,hF.fr.hp.marks hF.fr.df ev,hF.fr.sz⟩ st.on iv ev vv,ev⟩;rw [Jbe hF.iv st];exact (hF.fr.fr d).evo hF.fr.hp ev vv
end
end Go.Dn
