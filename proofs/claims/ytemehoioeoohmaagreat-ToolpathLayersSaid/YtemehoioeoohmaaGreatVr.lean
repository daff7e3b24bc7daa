/- The rules of a walk as a rewriting set; loops of typed functions. Conditions: none. -/
import Derived.Test.YtemehoioeoohmaaGreatVp
namespace Go.Vv
open Go
set_option linter.unusedSectionVars false
inductive LR (S R : Type) where
 | nx (s : S)
 | dn (r : R)
def Kn {S R : Type} (body : S → Option (LR S R)) : Nat → S → Option R
 | 0, _ => none
 | n + 1, s => match body s with
  | none => none
  | some (.nx s') => Kn body n s'
  | some (.dn r) => some r
def bigN : Nat := 18446744073709551616
theorem Kh {S R : Type} {Γ : Env} {pins ks : List Nat} {b : LC} {body : S → Option (LR S R)} {st : S → St} {out : R → LE × St}
  (hb : ∀ s x, body s = some x → LK Γ pins 0 ks b (some (st s)) = match x with | .nx s' => LK Γ pins 0 ks b (some (st s')) | .dn r => some (out r)) :
  ∀ n s r, Kn body n s = some r → LK Γ pins 0 ks b (some (st s)) = some (out r)
 | 0, s, r, h => by cases h
 | n + 1, s, r, h => by
  simp only [Kn] at h
  split at h
  ·cases h
  ·rename_i s' hs
   rw [hb s _ hs]
   exact Kh hb n s' r h
  ·rename_i r' hs
   cases h
   exact hb s _ hs
def gOpt {α : Type} (c : Bool) (o : Option α) : Option (Option α) := if c = true then (match o with | some v => some (some v) | none => none) else some none
theorem J2h {α : Type} {c : Bool} {o : Option α} {v : Option α} (h : gOpt c o = some v) (hc : c = true) : ∃ u, v = some u ∧ o = some u := by
 unfold gOpt at h
 rw [if_pos hc] at h
 cases o with
 | none => cases h
 | some u => cases h; exact ⟨u, rfl, rfl⟩
theorem Qp {α : Type} {c : Bool} {o : Option α} {v : Option α} (d : α) (h : gOpt c o = some v) (hc : c = true) : o = some (v.getD d) := by
 obtain ⟨u, rfl, h2⟩ := J2h h hc
 exact h2
theorem Jog {a b : Bool} (ha : a = true) (hb : b = true) : band a b = true := by rw [ha, hb]; rfl
theorem Jeb {a : Bool} (ha : a = false) : bnot a = true := by rw [ha]; rfl
theorem J4g (h : Heap) (c : Bool) (tb : List Win) (k : Nat) (v : AV) (hv : v.flat = true) : addS h c tb k v = tb := by
 cases v <;> first | rfl | cases hv
theorem Juk (h : Heap) (tb : List Win) (k : Nat) (v : AV) (hv : v.flat = true) : addW h tb k v = tb := by
 cases v <;> first | rfl | cases hv
section
variable (h : Heap) (tb : List Win) (c : Bool) (k : Nat)
theorem addS_any : addS h c tb k .any = tb := rfl
theorem J7w (b : Bool) : addS h c tb k (.bool b) = tb := rfl
theorem addS_int (q : IntKind) (n : Int) : addS h c tb k (.int q n) = tb := rfl
theorem addS_str (s : ByteArray) : addS h c tb k (.str s) = tb := rfl
theorem J6t : addS h c tb k .nils = tb := rfl
theorem J3e : addS h c tb k .nilp = tb := rfl
theorem J7i : addS h c tb k .nilf = tb := rfl
theorem J2k : addS h c tb k .nilm = tb := rfl
theorem addS_lst (n : Nat) (l : List AV) : addS h c tb k (.lst n l) = tb := rfl
theorem J1p (l : List AV) : addS h c tb k (.rptr l) = tb := rfl
theorem addS_agg (l : List AV) : addS h c tb k (.agg l) = tb := rfl
theorem addS_tup (l : List AV) : addS h c tb k (.tup l) = tb := rfl
theorem addS_fn (f : FuncId) (l : List AV) : addS h c tb k (.fn f l) = if c = true then tb else addF h l tb := rfl
theorem addF_nil : addF h [] tb = tb := rfl
theorem addF_ptr (g v o : Nat) (r : List AV) : addF h (.ptr g v o :: r) tb = addF h r (addP h false tb 0 g v (h g)) := rfl
theorem addF_int (q : IntKind) (n : Int) (r : List AV) : addF h (.int q n :: r) tb = addF h r tb := rfl
theorem J72 (b : Bool) (r : List AV) : addF h (.bool b :: r) tb = addF h r tb := rfl
theorem addF_agg (l r : List AV) : addF h (.agg l :: r) tb = addF h r tb := rfl
theorem J8h (l r : List AV) : addF h (.rptr l :: r) tb = addF h r tb := rfl
theorem addF_str (b : ByteArray) (r : List AV) : addF h (.str b :: r) tb = addF h r tb := rfl
theorem addF_fn (f : FuncId) (l r : List AV) : addF h (.fn f l :: r) tb = addF h r tb := rfl
theorem addF_F {α : Type} (e : α → List AV) (x : FS α) (r : List AV) : addF h (encF e x :: r) tb = addF h r tb := by cases x <;> rfl
theorem calU_fn (call : Call) (l : List AV) (g : FuncId) (caps : List AV) : calU call h l (.fn g caps) = calQ call g h (Jmr h (l ++ caps)) := rfl
theorem addS_arr (g v o n : Nat) : addS h c tb k (.arr g v o n) = addW h tb k (.arr g v o n) := rfl
theorem addS_map (g v : Nat) : addS h c tb k (.map g v) = addW h tb k (.map g v) := rfl
theorem addS_ptr (g v o : Nat) : addS h c tb k (.ptr g v o) = addP h c tb k g v (h g) := rfl
theorem addW_arr (g v o n : Nat) : addW h tb k (.arr g v o n) = if curW h g v o = true ∧ Jgg tb g = none then tb ++ [⟨g, k, 0, o, n⟩] else tb := rfl
theorem addW_map (g v : Nat) : addW h tb k (.map g v) = if Jor h g v = true ∧ Jgg tb g = none then tb ++ [⟨g, k, 0, 0, 0⟩] else tb := rfl
theorem addP_box (g ver v : Nat) (cells : List AV) : addP h c tb k g ver (some (.box v cells)) = if v = ver then addB h tb g (if c = true then k else g) cells else tb := rfl
theorem ren_F {α : Type} {w : Nat} {e : α → List AV} [hE : EncOK w e] (x : FS α) : ren h tb (encF e x) = encF e x := Jx9 (Jj1 x)
theorem addS_F {α : Type} {w : Nat} {e : α → List AV} [hE : EncOK w e] (x : FS α) : addS h c tb k (encF e x) = tb := J4g _ _ _ _ _ (Jj1 x)
theorem addW_F {α : Type} {w : Nat} {e : α → List AV} [hE : EncOK w e] (x : FS α) : addW h tb k (encF e x) = tb := Juk _ _ _ _ (Jj1 x)
end
theorem J00 (g : Nat) : Jgg [] g = none := rfl
theorem Jyc (x : Win) (r : List Win) (g : Nat) : Jgg (x :: r) g = if x.g = g then some x else Jgg r g := rfl
theorem norm_nil (ks : List Nat) (F : Nat → AV) (h : Heap) : norm [] ks ⟨F, h⟩ = Jq7 h F ks (mkTb h false F ks []) := rfl
theorem mkTb_nil (h : Heap) (c : Bool) (F : Nat → AV) (tb : List Win) : mkTb h c F [] tb = tb := rfl
theorem J1i (h : Heap) (c : Bool) (F : Nat → AV) (k : Nat) (r : List Nat) (tb : List Win) : mkTb h c F (k :: r) tb = mkTb h c F r (addS h c tb k (F k)) := rfl
theorem frR_nil (h : Heap) (tb : List Win) (F : Nat → AV) : frR h tb F [] = [] := rfl
theorem frR_cons (h : Heap) (tb : List Win) (F : Nat → AV) (k : Nat) (r : List Nat) : frR h tb F (k :: r) = (k, ren h tb (F k)) :: frR h tb F r := rfl
theorem hlR_nil (h : Heap) (tb : List Win) : hlR h tb [] = [] := rfl
theorem hlR_cons (h : Heap) (tb : List Win) (x : Win) (r : List Win) : hlR h tb (x :: r) = hlRC x.nn (renM h tb x (h x.g)) (hlR h tb r) := rfl
theorem J29 (n : Nat) (o : AObj) (r : List (Nat × AObj)) : hlRC n (some o) r = (n, o) :: r := rfl
theorem J7l (h : Heap) (tb : List Win) (x : Win) (o : AObj) : renM h tb x (some o) = some (renO h tb x o) := rfl
theorem renO_box (h : Heap) (tb : List Win) (x : Win) (v : Nat) (c : List AV) : renO h tb x (.box v c) = .box x.v (renC h tb c) := rfl
theorem renO_arr (h : Heap) (tb : List Win) (x : Win) (v e : Nat) (t : TypeId) (c : List AV) (z : Bool) : renO h tb x (.arr v e t c z) = .arr x.v e t (renC h tb (cut c (x.off * e) (x.len * e))) z := rfl
theorem renO_map (h : Heap) (tb : List Win) (x : Win) (v : Nat) (es : List (AV × AV)) (z : Bool) : renO h tb x (.map v es z) = .map x.v (renE h tb es) z := rfl
theorem J8b (h : Heap) (tb : List Win) (c : List AV) (hf : c.all AV.flat = true) : renC h tb c = c := by unfold renC; rw [if_pos hf]
theorem Jy5 (h : Heap) (len esz g v o : Nat) (k : IntKind) (i : Int) : Jgx h len esz (.ptr g v o) (.int k i) = if 0 ≤ i ∧ i < len ∧ cur h g v = true then some (.ptr g v (o + i.toNat * esz)) else none := rfl
theorem J5d (h : Heap) (v : AV) : Jkz h (some v) = match snap h depth v with | some (u, _) => some (u, fun _ => none) | none => none := rfl
theorem J65 (h : Heap) (l : List AV) : aggV h (some l) = some (.agg l, h) := rfl
theorem frz_0 (h : Heap) : Kg h [] = h := by funext g; simp [Kg]
theorem J94 (b : Bool) : AV.flat (.bool b) = true := rfl
theorem flat_int (k : IntKind) (n : Int) : AV.flat (.int k n) = true := rfl
theorem flat_str (b : ByteArray) : AV.flat (.str b) = true := rfl
theorem J7k : AV.flat .nils = true := rfl
theorem J7h : AV.flat .nilp = true := rfl
theorem J9z : AV.flat .nilf = true := rfl
theorem J8n : AV.flat .nilm = true := rfl
theorem flat_lst (n : Nat) (l : List AV) : AV.flat (.lst n l) = true := rfl
theorem flat_arr (a b c d : Nat) : AV.flat (.arr a b c d) = false := rfl
theorem flat_ptr (a b c : Nat) : AV.flat (.ptr a b c) = false := rfl
theorem flat_mpr (a b : List AV) : AV.flat (.mpr a b) = true := rfl
theorem flat_map (a b : Nat) : AV.flat (.map a b) = false := rfl
theorem flat_agg (l : List AV) : AV.flat (.agg l) = false := rfl
theorem flat_tup (l : List AV) : AV.flat (.tup l) = false := rfl
theorem flat_fn (f : FuncId) (l : List AV) : AV.flat (.fn f l) = false := rfl
theorem flat_any : AV.flat .any = false := rfl
theorem cv_agg (l : List AV) : AV.cells (.agg l) = some l := rfl
theorem cv_bool (b : Bool) : AV.cells (.bool b) = some [.bool b] := rfl
theorem cv_int (k : IntKind) (n : Int) : AV.cells (.int k n) = some [.int k n] := rfl
theorem cv_str (b : ByteArray) : AV.cells (.str b) = some [.str b] := rfl
theorem cv_nils : AV.cells .nils = some [.nils] := rfl
theorem cv_nilp : AV.cells .nilp = some [.nilp] := rfl
theorem cv_nilf : AV.cells .nilf = some [.nilf] := rfl
theorem cv_nilm : AV.cells .nilm = some [.nilm] := rfl
theorem cv_lst (n : Nat) (l : List AV) : AV.cells (.lst n l) = some [.lst n l] := rfl
theorem cv_fn (f : FuncId) (l : List AV) : AV.cells (.fn f l) = some [.fn f l] := rfl
theorem cv_arr (a b c d : Nat) : AV.cells (.arr a b c d) = some [.arr a b c d] := rfl
theorem cv_ptr (a b c : Nat) : AV.cells (.ptr a b c) = some [.ptr a b c] := rfl
theorem cv_mpr (a b : List AV) : AV.cells (.mpr a b) = some [.mpr a b] := rfl
theorem cv_map (a b : Nat) : AV.cells (.map a b) = some [.map a b] := rfl
section
variable (h : Heap) (n g v off len esz : Nat) (l : List AV) (k : IntKind) (i : Int)
theorem J5t : lenV h .nils = some 0 := rfl
theorem lenV_lst : lenV h (.lst n l) = some n := rfl
theorem Jv3 : Jfr h esz .nils = some [] := rfl
theorem Jz3 : Jfr h esz (.arr g v off len) = match h g with
  | some (.arr ver' esz' _ cells _) => if v = ver' ∧ esz = esz' ∧ (off + len) * esz ≤ cells.length then some (cut cells (off * esz) (len * esz)) else none
  | _ => none := rfl
end
theorem Jts {α : Type} {w : Nat} {e : α → List AV} [hE : EncOK w e] {h : Heap} {g v : Nat} {l : List α} {el : TypeId} {fz : Bool} (k : Nat) (e1 : h g = some (.arr v w el (Jn e l) fz)) :
  snap h (k + 1) (.arr g v 0 l.length) = some (encF e (.lst l), [g]) := by
 simp only [snap, e1]
 rw [if_pos ⟨trivial, by rw [Jb6 (e := e)]; simp⟩, if_pos]
 ·rw [Nat.zero_mul, Jqz (e := e) l _ rfl]; rfl
 ·rw [Nat.zero_mul, Jqz (e := e) l _ rfl]; exact Jqs l
theorem Jdr (x : Bool) : band true x = x := by cases x <;> rfl
theorem Jd5 (x : Bool) : band false x = false := by cases x <;> rfl
theorem band_t' (x : Bool) : band x true = x := by cases x <;> rfl
theorem Jfy (x : Bool) : band x false = false := by cases x <;> rfl
theorem Jjm (x : Bool) : bor true x = true := by cases x <;> rfl
theorem Jgt (x : Bool) : bor false x = x := by cases x <;> rfl
theorem bor_t' (x : Bool) : bor x true = true := by cases x <;> rfl
theorem Juj (x : Bool) : bor x false = x := by cases x <;> rfl
theorem Qx : bnot true = false := rfl
theorem Zt : bnot false = true := rfl
theorem beqB_tt : beqB true true = true := rfl
theorem beqB_ff : beqB false false = true := rfl
theorem beqB_tf : beqB true false = false := rfl
theorem beqB_ft : beqB false true = false := rfl
theorem tof (x : Bool) : x = true ∨ x = false := by cases x <;> simp
theorem J1e (ag : Bool) (v : AV) (l : List AV) (off n : Nat) : pack ag (v :: l) off n = if off + n ≤ (v :: l).length then (if ag = true then some (.agg (((v :: l).drop off).take n)) else (v :: l)[off]?) else none := rfl
theorem cut_cons (v : AV) (l : List AV) (off n : Nat) : cut (v :: l) off n = ((v :: l).drop off).take n := rfl
theorem cut_nil0 (off n : Nat) : cut [] off n = [] := by simp [cut]
theorem Jys (v : AV) (l : List AV) (off : Nat) (c : List AV) : paste (v :: l) off c = (v :: l).take off ++ c ++ (v :: l).drop (off + c.length) := rfl
theorem Jyt {α : Type} (e : α → List AV) : Jn e [] = [] := rfl
theorem frz_at (h : Heap) (ns : List Nat) (g : Nat) : Kg h ns g = if g ∈ ns then (h g).map AObj.freeze else h g := rfl
inductive OS (α : Type) where
 | nil
 | own (l : List α)
def OS.l {α : Type} : OS α → List α
 | .nil => []
 | .own l => l
def OS.f {α : Type} : OS α → FS α
 | .nil => .nil
 | .own l => .lst l
theorem lenV_1 (h : Heap) (g v off : Nat) : lenV h (.arr g v off 1) = if Jek h g v = true then some 1 else none := rfl
theorem lenV_0 (h : Heap) (g v off : Nat) : lenV h (.arr g v off 0) = if Jek h g v = true then some 0 else none := rfl
theorem Ka {α : Type} (e : α → List AV) : encF e .nil = .nils := rfl
theorem Jpr (h : Heap) (g0 esz : Nat) (el : TypeId) (l : List AV) : bslV h g0 1 esz el (some l) = some (.arr g0 (Kj h g0) 0 1, upd h g0 (some (.arr (Kj h g0) esz el l false))) := rfl
def tupS : Option (List (AV × List Nat)) → Option (AV × List Nat)
 | some ps => some (.tup (ps.map (·.1)), ps.flatMap (·.2))
 | none => none
theorem Q4 (h : Heap) (l : List AV) : snap h depth (.tup l) = tupS (l.mapM (snap h 7)) := rfl
theorem Qm (h : Heap) (k : IntKind) (n : Int) : snap h 7 (.int k n) = some (.int k n, []) := rfl
theorem K5 (h : Heap) (b : Bool) : snap h 7 (.bool b) = some (.bool b, []) := rfl
theorem Qo (h : Heap) (b : ByteArray) : snap h 7 (.str b) = some (.str b, []) := rfl
theorem K4 (h : Heap) : snap h 7 .nils = some (.nils, []) := rfl
theorem Qq (h : Heap) (l : List AV) (hl : l.all AV.flat = true) : snap h 7 (.agg l) = some (.agg l, []) := by
 simp only [snap]
 rw [if_pos hl]
def aggS : Option (List (AV × List Nat)) → Option (AV × List Nat)
 | some ps => some (.agg (ps.map (·.1)), ps.flatMap (·.2))
 | none => none
theorem Jm7 (ps : List (AV × List Nat)) : aggS (some ps) = some (.agg (ps.map (·.1)), ps.flatMap (·.2)) := rfl
theorem Jnj (h : Heap) (l : List AV) (hl : l.all AV.flat = false) : snap h depth (.agg l) = aggS (l.mapM (snap h 7)) := by
 show snap h (7 + 1) (.agg l) = _
 simp only [snap]
 rw [if_neg (by rw [hl]; decide)]
 cases l.mapM (snap h 7) <;> rfl
attribute [simp ↓]
 EC_seq RC_reg RC_regD EC_ret EC_skip RC_cond EC_blk EC_exit J90 Jze ops_nil ops_cons opsD_nil J55 stepD op_mov op_pick op_alloc
 op_box op_build J8f op_bslz op_load op_store op_ibin op_eqv op_un op_conv op_nilck op_mkfn op_mkS op_slc op_faddr op_fld op_iaddr J12 op_idx
 op_ext op_len op_lenM op_lenS op_isnil J9h op_slcA op_appz op_appn op_ston op_callu op_msk maskH_at op_app op_callp op_callz op_callr op_callv op_callw op_callq op_frz op_mkM op_look op_setM op_delM op_shf op_mm evF_t evF_c evs_nil evs_cons evO_none evO_some J0m Ju2 upd_at
 fr_at hl_at hl_nil loop_eq trim_eq norm_nil mkTb_nil J1i frR_nil frR_cons hlR_nil hlR_cons
attribute [simp]
 Jdr Jd5 band_t' Jfy Jjm Jgt bor_t' Juj Qx Zt beqB_tt beqB_ff beqB_tf beqB_ft
 Jn9 Jqy J87 Jzz Jz6 J6y J0d J8x J2p Jvy J1u then_ret then_ite Jz2
 blk_ret blk_exit blk_ite fin_ret Jzl fin_ite J6h J1h putR_ite J0t LOp.isNew J83 J2g J2u J7q binV_int
 bin_add bin_sub bin_mul bin_quo bin_rem bin_and bin_or bin_xor bin_andn bin_eql bin_neq bin_lss bin_leq bin_gtr bin_geq un_not un_neg conv_int shf_shl shf_shr mm_max mm_min
 cell_int J1g cells_eq J6f Jvh eqV_agg eqV_one eqR_t eqR_f J7a ite_intV ite_bor ite_band ite_born J4c not_bool J2r
 boxV J65 Jpr stoV fldV extV nilV retP retZ calP calZ calV frzV J25 LOp.cls J64 inNm nwOK_ptr nwOK_arr J02 apnV apnZ_t apnZ_f J73 retQ calQ Jg1 resV RV.get Juo Jnc J8z
 snap_int snap_str snap_lst J6z J7d snap_fn0 Jsk J80 J0b AV.scalar Kj Jql Jl3 Jl4
 cut_cons cut_nil0 Jyt frz_at cur curA Jek curM Jux curW Jor Jf8 Jk5 Jc8 AObj.ver AObj.fz
 J5t lenV_lst lenV_1 lenV_0 Jv3 Jz3
 J94 flat_int flat_str J7k J7h J9z J8n flat_lst flat_arr flat_ptr flat_map flat_mpr flat_agg flat_tup flat_fn flat_any
 cv_agg cv_bool cv_int cv_str cv_nils cv_nilp cv_nilf cv_nilm cv_lst cv_fn cv_arr cv_ptr cv_map cv_mpr
 addS_any J7w addS_int addS_str J6t J3e J7i J2k addS_lst J1p addS_agg addS_tup addS_fn addF_nil addF_ptr addF_int J72 addF_agg J8h addF_str addF_fn addF_F calU_fn addS_arr addS_map addS_ptr addW_arr addW_map addP_box addB addC
 Juk J00 Jyc Jy0 Jq7 nnB J29 J7l renO_box renO_arr renO_map J8b ren renL renC J5d frz_0
 Ka Jj1 lenV_F cells_F snap_F snap7_F ren_F addS_F addW_F Jqs Jb6 Jqz J6a
theorem idx_agg (len esz : Nat) (ag : Bool) (l : List AV) (k : IntKind) (i : Int) : idxV len esz ag (.agg l) (.int k i) = if 0 ≤ i ∧ i < len then pack ag l (i.toNat * esz) esz else none := rfl
theorem J9l (h : Heap) (len esz : Nat) (l : List AV) (k : IntKind) (i : Int) : Jgx h len esz (.rptr l) (.int k i) = if 0 ≤ i ∧ i < len then some (.rptr (l.drop (i.toNat * esz))) else none := rfl
attribute [simp 500] J1e Jys Jy5 idx_agg J9l
end Go.Vv
