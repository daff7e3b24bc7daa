/- The rules of Vo and the evaluator's definitions as rewriting rules for the texts that follow. -/
import Derived.Test.YtldcbmkfkbnmbaaVo
namespace Go.Vv
open Go
theorem cut_all (l : List AV) (n : Nat) (h : l.length = n) : cut l 0 n = l := by
  unfold cut
  rw [List.drop_zero, ← h, List.take_length]
section
variable (h : Heap) (n g v off len esz : Nat) (l : List AV) (k : IntKind) (i : Int)
theorem lenV_nils : lenV h .nils = some 0 := rfl
theorem lenV_lst : lenV h (.lst n l) = some n := rfl
theorem lenV_arr : lenV h (.arr g v off len) = if curAny h g v then some (len : Int) else none := rfl
theorem iaddrV_lst : iaddrV h esz (.lst n l) (.int k i) = if 0 ≤ i ∧ i < n then some (.rptr (l.drop (i.toNat * esz))) else none := rfl
theorem iaddrV_arr : iaddrV h esz (.arr g v off len) (.int k i) = if 0 ≤ i ∧ i < len ∧ curA h g v esz = true then some (.ptr g v ((off + i.toNat) * esz)) else none := rfl
theorem elemsV_nils : elemsV h esz .nils = some [] := rfl
theorem elemsV_lst : elemsV h esz (.lst n l) = if l.length = n * esz then some l else none := rfl
theorem elemsV_arr : elemsV h esz (.arr g v off len) = match h g with
    | some (.arr ver' esz' _ cells _) => if v = ver' ∧ esz = esz' ∧ (off + len) * esz ≤ cells.length then some (cut cells (off * esz) (len * esz)) else none
    | _ => none := rfl
theorem sliceV_lst (lo hi : Option AV) : sliceV h esz (.lst n l) lo hi = match boundV 0 lo, boundV n hi with
    | some a, some b => if 0 ≤ a ∧ a ≤ b ∧ b ≤ n ∧ l.length = n * esz then some (.lst (b - a).toNat (cut l (a.toNat * esz) ((b - a).toNat * esz))) else none
    | _, _ => none := rfl
theorem sliceV_arr (lo hi : Option AV) : sliceV h esz (.arr g v off len) lo hi = match boundV 0 lo, boundV len hi with
    | some a, some b => if 0 ≤ a ∧ a ≤ b ∧ b ≤ len ∧ curA h g v esz = true then some (.arr g v (off + a.toNat) (b - a).toNat) else none
    | _, _ => none := rfl
theorem sliceV_nils (lo hi : Option AV) : sliceV h esz .nils lo hi = match boundV 0 lo, boundV 0 hi with
    | some a, some b => if a = 0 ∧ b = 0 then some .nils else none
    | _, _ => none := rfl
end
theorem flat_bool (b : Bool) : AV.flat (.bool b) = true := rfl
theorem flat_int (k : IntKind) (n : Int) : AV.flat (.int k n) = true := rfl
theorem flat_str (b : ByteArray) : AV.flat (.str b) = true := rfl
theorem flat_nils : AV.flat .nils = true := rfl
theorem flat_nilp : AV.flat .nilp = true := rfl
theorem flat_lst (n : Nat) (l : List AV) : AV.flat (.lst n l) = true := rfl
theorem flat_arr (a b c d : Nat) : AV.flat (.arr a b c d) = false := rfl
theorem flat_ptr (a b c : Nat) : AV.flat (.ptr a b c) = false := rfl
theorem flat_agg (l : List AV) : AV.flat (.agg l) = false := rfl
theorem cells_agg (l : List AV) : AV.cells (.agg l) = some l := rfl
theorem cells_bool (b : Bool) : AV.cells (.bool b) = some [.bool b] := rfl
theorem cells_int (k : IntKind) (n : Int) : AV.cells (.int k n) = some [.int k n] := rfl
theorem cells_str (b : ByteArray) : AV.cells (.str b) = some [.str b] := rfl
theorem cells_nils : AV.cells .nils = some [.nils] := rfl
theorem cells_nilp : AV.cells .nilp = some [.nilp] := rfl
theorem cells_nilf : AV.cells .nilf = some [.nilf] := rfl
theorem cells_lst (n : Nat) (l : List AV) : AV.cells (.lst n l) = some [.lst n l] := rfl
theorem cells_rptr (l : List AV) : AV.cells (.rptr l) = some [.rptr l] := rfl
theorem cells_fn (f : FuncId) (l : List AV) : AV.cells (.fn f l) = some [.fn f l] := rfl
theorem cells_arr (a b c d : Nat) : AV.cells (.arr a b c d) = some [.arr a b c d] := rfl
theorem cells_ptr (a b c : Nat) : AV.cells (.ptr a b c) = some [.ptr a b c] := rfl
theorem snap_flat (h : Heap) (k : Nat) (v : AV) (hv : v.flat = true) : snap h (k + 1) v = some (v, []) := by
  cases v <;> first | rfl | cases hv
theorem mapM_flat (h : Heap) (k : Nat) : ∀ l : List AV, l.all AV.flat = true → l.mapM (snap h (k + 1)) = some (l.map fun v => (v, []))
  | [], _ => rfl
  | v :: r, hl => by
    rw [List.all_cons, Bool.and_eq_true] at hl
    rw [mapM_opt_cons, snap_flat h k v hl.1, mapM_flat h k r hl.2]
    rfl
theorem nil_flat (l : List AV) : (l.map fun v => ((v, []) : AV × List Nat)).flatMap (·.2) = [] := by
  induction l with
  | nil => rfl
  | cons v r ih => rw [List.map_cons, List.flatMap_cons, ih]; rfl
theorem fst_flat (l : List AV) : (l.map fun v => ((v, []) : AV × List Nat)).map (·.1) = l := by
  induction l with
  | nil => rfl
  | cons v r ih => rw [List.map_cons, List.map_cons, ih]
theorem snap_tup (h : Heap) (l : List AV) (hl : l.all AV.flat = true) : snap h depth (.tup l) = some (.tup l, []) := by
  have e : l.mapM (snap h 7) = some (l.map fun v => (v, [])) := mapM_flat h 6 l hl
  have e1 : snap h depth (.tup l) = match l.mapM (snap h 7) with | some ps => some (.tup (ps.map (·.1)), ps.flatMap (·.2)) | none => none := rfl
  rw [e1, e]
  show some (AV.tup ((l.map fun v => ((v, []) : AV × List Nat)).map (·.1)), (l.map fun v => ((v, []) : AV × List Nat)).flatMap (·.2)) = _
  rw [nil_flat, fst_flat]
attribute [simp ↓]
  EC_seq RC_reg RC_regD EC_ret EC_skip RC_cond EC_blk EC_exit step_none step_guard ops_nil ops_cons opsD_nil opsD_cons stepD op_mov op_pick op_alloc
  op_box op_build op_bslice op_load op_store op_ibin op_eqv op_un op_conv op_nilck op_mkfn op_mkS op_slc op_faddr op_fld op_iaddr op_iaddrA op_idx
  op_ext op_len op_lenM op_lenS op_app op_callp op_callz op_callr op_callv evF_t evF_c evs_nil evs_cons evO_none evO_some fillsF_nil fillsF_cons upd_at
  fr_at hl_at hl_nil frK_nil frK_cons hlK_nil hlK_cons refF_nil refF_cons refH_nil refH_cons loop_eq keep_pure
attribute [simp]
  guard_bool guard_tup guard_ite guard_ite' bindS_some bindS_ite doneS_some doneS_ite cond_bool then_normal then_exit then_ret then_ite blk_normal
  blk_ret blk_exit blk_ite fin_ret fin_normal fin_ite putR_some putR_none putR_ite ite_pairs LOp.isNew retV retI pickV binV unV convV eqR boxV aggV
  bslV stoV fldV extV nilV mkV retP retZ calP calZ calV argsF ibinV beq_int bne_int ite_bool ite_int resV RV.get mapM_opt_nil mapM_opt_cons snap_bool
  snap_int snap_str snap_lst snap_nils snap_rptr snap_fn0 snap_agg snaps_nil snaps_cons AV.scalar newVer loadV storeV derefC
  pack cut paste cur curA curAny curM lenM lenS boundV faddrV iaddrAV idxV appV repeatL eqV cellsEq cellEq AObj.ver
  lenV_nils lenV_lst lenV_arr iaddrV_lst iaddrV_arr elemsV_nils elemsV_lst elemsV_arr sliceV_lst sliceV_arr sliceV_nils flat_bool flat_int flat_str flat_nils flat_nilp flat_lst flat_arr flat_ptr flat_agg cells_agg cells_bool cells_int cells_str cells_nils cells_nilp cells_nilf cells_lst cells_rptr cells_fn cells_arr cells_ptr snap_tup
  hlC_some hlC_none refC_some refC_none keepI_tt refsIn refsInL refsInO
attribute [congr] ite_congr2
end Go.Vv
namespace Go.Vv
open Go
/-- A slice of so many elements of this size, nil or not, its cells flat. -/
def IsL (esz : Nat) (a : AV) (n : Nat) (L : List AV) : Prop := (a = .nils ∧ n = 0 ∧ L = []) ∨ (a = .lst n L ∧ L.length = n * esz ∧ L.all AV.flat = true)
theorem w64 (x : Int) (h0 : -9223372036854775808 ≤ x) (h1 : x ≤ 9223372036854775807) : IntKind.wrap .i64 x = x := by
  rw [IntKind.wrap_i64]
  omega
section
variable {esz n : Nat} {a : AV} {L : List AV} (h : IsL esz a n L)
include h
theorem IsL.len (H : Heap) : lenV H a = some (n : Int) := by
  rcases h with ⟨rfl, rfl, rfl⟩ | ⟨rfl, -, -⟩ <;> rfl
theorem IsL.cells : L.length = n * esz := by
  rcases h with ⟨rfl, rfl, rfl⟩ | ⟨rfl, hh, -⟩
  · simp
  · exact hh
theorem IsL.iaddr (H : Heap) (k : IntKind) (i : Nat) (hi : i < n) : iaddrV H esz a (.int k i) = some (.rptr (L.drop (i * esz))) := by
  rcases h with ⟨rfl, rfl, rfl⟩ | ⟨rfl, -, -⟩
  · omega
  · simp only [iaddrV]
    rw [if_pos ⟨by omega, by omega⟩]
    rfl
theorem IsL.snap (H : Heap) : snap H depth a = some (a, []) := by
  rcases h with ⟨rfl, rfl, rfl⟩ | ⟨rfl, -, -⟩ <;> rfl
theorem IsL.refs (ns : List Nat) : refsIn ns a = true := by
  rcases h with ⟨rfl, rfl, rfl⟩ | ⟨rfl, -, -⟩ <;> rfl
theorem IsL.elems (H : Heap) : elemsV H esz a = some L := by
  rcases h with ⟨rfl, rfl, rfl⟩ | ⟨rfl, hh, -⟩
  · rfl
  · simp only [elemsV]
    rw [if_pos hh]
theorem IsL.flat : a.flat = true := by
  rcases h with ⟨rfl, rfl, rfl⟩ | ⟨rfl, -, -⟩ <;> rfl
end
theorem snap_arr {h : Heap} {g v esz : Nat} {off len : Nat} {t : TypeId} {cells : List AV} {fz : Bool} (k : Nat) (e : h g = some (.arr v esz t cells fz)) (hl : (off + len) * esz ≤ cells.length) (hf : cells.all AV.flat = true) :
    snap h (k + 1) (.arr g v off len) = some (.lst len (cut cells (off * esz) (len * esz)), [g]) := by
  have hc : (cut cells (off * esz) (len * esz)).all AV.flat = true := by
    rw [List.all_eq_true] at hf ⊢
    intro x hx
    exact hf x (List.mem_of_mem_drop (List.mem_of_mem_take hx))
  simp only [snap, e]
  rw [if_pos ⟨trivial, hl⟩, if_pos hc]
def tupS : Option (List (AV × List Nat)) → Option (AV × List Nat)
  | some ps => some (.tup (ps.map (·.1)), ps.flatMap (·.2))
  | none => none
theorem snap_tupE (h : Heap) (l : List AV) : snap h depth (.tup l) = tupS (l.mapM (snap h 7)) := rfl
theorem snap7_int (h : Heap) (k : IntKind) (n : Int) : snap h 7 (.int k n) = some (.int k n, []) := rfl
theorem snap7_bool (h : Heap) (b : Bool) : snap h 7 (.bool b) = some (.bool b, []) := rfl
theorem snap7_nils (h : Heap) : snap h 7 .nils = some (.nils, []) := rfl
end Go.Vv
