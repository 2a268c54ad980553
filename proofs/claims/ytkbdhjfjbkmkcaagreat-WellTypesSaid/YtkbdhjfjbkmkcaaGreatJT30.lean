/- The abstract machine, step by step: values, and what a call has made itself, behind what was there. -/
import Derived.Test.YtkbdhjfjbkmkcaaGreatJT29
set_option linter.unusedSimpArgs false
set_option linter.unusedVariables false
namespace Go.Proofs.YtkbdhjfjbkmkcaaGreat.Abs
open Go Go.RowKit

theorem wrap_i64 {n : Int} (h1 : -9223372036854775808 ≤ n) (h2 : n ≤ 9223372036854775807) : IntKind.i64.wrap n = n := by
  simp [IntKind.wrap, IntKind.min, IntKind.max, IntKind.signed, IntKind.bits]
  omega
section
variable {P : Program} {cf : CF} {h t : Heap} {dst : Option Nat} {ty : TypeId} {pos : String} {after : Array Edge} {guard : Option (Nat × Bool)} {T : Tmps}

theorem row_at0 (sz : Nat) : rowAt (h ++ t) h.length sz = rowAt t 0 sz := by
  simp [rowAt, List.getElem?_append_right]
theorem row_at (j sz : Nat) : rowAt (h ++ t) (h.length + j) sz = rowAt t j sz := by
  simp [rowAt, List.getElem?_append_right]
theorem row_zero (esz sz : Nat) (es : List (List Leaf)) : rowAt (some (.row esz es) :: t) 0 sz = if es.length = sz then some (esz, es) else none := by
  simp [rowAt]
theorem row_succ (o : Option AO) (j sz : Nat) : rowAt (o :: t) (j + 1) sz = rowAt t j sz := by
  simp [rowAt]
theorem set_at0 (o : Option AO) : (h ++ t).set h.length o = h ++ t.set 0 o := by
  rw [List.set_append_right _ _ (Nat.le_refl _), Nat.sub_self]
theorem set_at (j : Nat) (o : Option AO) : (h ++ t).set (h.length + j) o = h ++ t.set j o := by
  rw [List.set_append_right _ _ (Nat.le_add_right _ _), Nat.add_sub_cancel_left]

def boxK (h : Heap) : V → Res
  | .one l => allocR none h (.row 1 [[l]]) fun id => .one (.ptr id 1 0 0)
  | .agg cs => allocR none h (.row cs.length [cs]) fun id => .one (.ptr id 1 0 0)
  | _ => none
theorem op_box (a : TypeId) (x : Operand) : absOp P cf none T h ⟨dst, .box a x, ty, pos, after, guard⟩ = boxK h (ev T x) := by
  simp only [absOp, boxK]
  split <;> simp_all
theorem boxK_one (l : Leaf) : boxK h (.one l) = some (.one (.ptr h.length 1 0 0), h ++ [some (.row 1 [[l]])], []) := rfl
theorem boxK_agg (cs : List Leaf) : boxK h (.agg cs) = some (.one (.ptr h.length 1 0 0), h ++ [some (.row cs.length [cs])], []) := rfl

def allocK (h : Heap) : Option (List Leaf) → Res
  | some z => some (.one (.ptr h.length 1 0 0), h ++ [some (.row z.length [z])], [])
  | none => none
theorem op_alloc (a : TypeId) : absOp P cf none T h ⟨dst, .alloc a, ty, pos, after, guard⟩ = allocK h (tzero P a) := by
  simp only [absOp]
  cases tzero P a <;> rfl

def storeK (P : Program) (a : TypeId) (h : Heap) : V → V → Res
  | .one l, .one y => if tsize P a = some 1 then (wr h l [y]).map fun r => (.junk, r.1, r.2) else none
  | .one l, .agg cs => if tsize P a = some cs.length then (wr h l cs).map fun r => (.junk, r.1, r.2) else none
  | _, _ => none
theorem op_store (a : TypeId) (x y : Operand) : absOp P cf none T h ⟨dst, .store a x y, ty, pos, after, guard⟩ = storeK P a h (ev T x) (ev T y) := by
  simp only [absOp]
  cases hx : ev T x with
  | one l =>
    simp only
    cases ts : tsize P a with
    | none => cases hy : ev T y <;> simp [storeK, ts]
    | some n => cases hy : ev T y <;> simp [storeK, ts]
  | junk => rfl
  | agg _ => rfl
  | tup _ => rfl

theorem op_build (a : TypeId) (ps : Array (Nat × Operand)) : absOp P cf none T h ⟨dst, .build a ps, ty, pos, after, guard⟩ = pureR h (buildV P a (ps.toList.map fun p => (p.1, ev T p.2))) := rfl
def extractK (i : Nat) : V → Option V
  | .tup vs => vs[i]?
  | _ => none
theorem op_extract (x i : Nat) : absOp P cf none T h ⟨dst, .extract (.tmp x) i, ty, pos, after, guard⟩ = pureR h (extractK i (tget T x)) := by
  simp only [absOp, ev, extractK]
  split <;> simp_all [pureR]
def pickK : V → V → V → Option V
  | .one (.bool true), a, _ => some a
  | .one (.bool false), _, b => some b
  | _, _, _ => none
theorem op_pick (c a b : Operand) : absOp P cf none T h ⟨dst, .pick c a b, ty, pos, after, guard⟩ = pureR h (pickK (ev T c) (ev T a) (ev T b)) := by
  simp only [absOp, pickK]
  split
  · rename_i hc; simp [hc]
  · rename_i hc; simp [hc]
  · rename_i h1 h2
    split
    · rename_i hc; exact (h1 hc).elim
    · rename_i hc; exact (h2 hc).elim
    · rfl
theorem pick_true (a b : V) : pickK (.one (.bool true)) a b = some a := rfl
theorem pick_false (a b : V) : pickK (.one (.bool false)) a b = some b := rfl


theorem wantG_bool (w b : Bool) : wantG w (.one (.bool b)) = some (b == w) := rfl
theorem wantG_tup (w : Bool) (vs : List V) : wantG w (.tup vs) = some false := rfl
theorem wantD_some (w : Bool) (d : Nat) : wantD T w (some d) = wantG w (tget T d) := rfl
theorem dstAt_zero (o : Oper) (l : List Oper) : dstAt (o :: l) 0 = o.dst := rfl
theorem dstAt_succ (o : Oper) (l : List Oper) (n : Nat) : dstAt (o :: l) (n + 1) = dstAt l n := rfl
end

section
variable {P : Program} {h : Heap}

def isSl (P : Program) (t : TypeId) : Bool := match P.underlying t with
  | some (.slice _) => true
  | _ => false
def isStr (P : Program) (t : TypeId) : Bool := match P.underlying t with
  | some .string => true
  | _ => false
def fOff (P : Program) (t : TypeId) (f : Nat) : Option (Nat × TypeId) := (fieldOf P t f).map fun fd => (fd.offset, fd.type)

theorem len_isl (t : TypeId) (es : List (List Leaf)) : lenK P t h (.one (.isl es)) = if isSl P t then some (.one (.int .i64 (es.length : Nat))) else none := by
  unfold lenK lenOK isSl; cases hu : P.underlying t with
  | none => rfl
  | some d => cases d <;> rfl
theorem len_nils (t : TypeId) : lenK P t h (.one .nils) = if isSl P t then some (.one (.int .i64 0)) else none := by
  unfold lenK lenOK isSl; cases hu : P.underlying t with
  | none => rfl
  | some d => cases d <;> rfl
theorem len_zsl (t : TypeId) : lenK P t h (.one .zsl) = if isSl P t then some (.one (.int .i64 0)) else none := by
  unfold lenK lenOK isSl; cases hu : P.underlying t with
  | none => rfl
  | some d => cases d <;> rfl
theorem len_sl (t : TypeId) (id s sz off len : Nat) : lenK P t h (.one (.sl id s sz off len)) = if isSl P t then some (.one (.int .i64 (len : Nat))) else none := by
  unfold lenK lenOK isSl; cases hu : P.underlying t with
  | none => rfl
  | some d => cases d <;> rfl
theorem len_str (t : TypeId) (s : List UInt8) : lenK P t h (.one (.str s)) = if isStr P t then some (.one (.int .i64 (s.length : Nat))) else none := by
  unfold lenK lenOK isStr; cases hu : P.underlying t with
  | none => rfl
  | some d => cases d <;> rfl

theorem idx_isl (t : TypeId) (es : List (List Leaf)) (k : IntKind) (z : Int) :
    indexAddrV P t (.one (.isl es)) (.one (.int k z)) = if 0 ≤ z then (telem P t).bind fun e => (es[z.toNat]?).bind fun cs => if tsize P e = some cs.length then some (.one (.iptr cs 0)) else none else none := by
  unfold indexAddrV telem
  by_cases hz : 0 ≤ z
  · cases hu : P.underlying t with
    | none => simp [natOf, hz]
    | some d => cases d <;> simp [natOf, hz]
  · simp [natOf, hz]
theorem idx_sl (t : TypeId) (id s sz off len : Nat) (k : IntKind) (z : Int) :
    indexAddrV P t (.one (.sl id s sz off len)) (.one (.int k z)) = if 0 ≤ z then (telem P t).bind fun e => if z.toNat < len ∧ tsize P e = some s then some (.one (.ptr id sz (off + z.toNat) 0)) else none else none := by
  unfold indexAddrV telem
  by_cases hz : 0 ≤ z
  · cases hu : P.underlying t with
    | none => simp [natOf, hz]
    | some d => cases d <;> simp [natOf, hz]
  · simp [natOf, hz]
theorem index_str (t : TypeId) (s : List UInt8) (k : IntKind) (z : Int) : indexV P t (.one (.str s)) (.one (.int k z)) = if 0 ≤ z then if isStr P t then (s[z.toNat]?).map fun b => .one (.int .u8 b.toNat) else none else none := by
  unfold indexV isStr
  by_cases hz : 0 ≤ z
  · cases hu : P.underlying t with
    | none => simp [natOf, hz]
    | some d => cases d <;> simp [natOf, hz]
  · simp [natOf, hz]

theorem rd_ptr (H : Heap) (id sz i off n : Nat) : rd H (.ptr id sz i off) n = (rowAt H id sz).bind fun r => (r.2[i]?).bind fun cs => cut cs off n := rfl
theorem rd_iptr (H : Heap) (cs : List Leaf) (off n : Nat) : rd H (.iptr cs off) n = cut cs off n := rfl
theorem loadK_one (a : TypeId) (H : Heap) (l : Leaf) : loadK P a H (.one l) = (tagg P a).bind fun g => (tsize P a).bind fun n => (rd H l n).bind fun cs => mkV g cs := rfl
theorem mkV_one (l : Leaf) : mkV false [l] = some (.one l) := rfl
theorem mkV_agg (cs : List Leaf) : mkV true cs = some (.agg cs) := rfl

theorem field_ptr (s : TypeId) (f id sz i off : Nat) : fieldAddrV P s (.one (.ptr id sz i off)) f = (fOff P s f).bind fun q => (tsize P q.2).bind fun n => if n = 0 then none else some (.one (.ptr id sz i (off + q.1))) := by
  unfold fieldAddrV fOff
  cases fieldOf P s f <;> rfl
theorem field_iptr (s : TypeId) (f : Nat) (cs : List Leaf) (off : Nat) : fieldAddrV P s (.one (.iptr cs off)) f = (fOff P s f).bind fun q => (tsize P q.2).bind fun n => if n = 0 then none else some (.one (.iptr cs (off + q.1))) := by
  unfold fieldAddrV fOff
  cases fieldOf P s f <;> rfl
theorem field_agg (s : TypeId) (f : Nat) (cs : List Leaf) : fieldK P s f (.agg cs) = (fOff P s f).bind fun q => partV P q.2 cs q.1 := by
  unfold fieldK fOff
  cases fieldOf P s f <;> rfl
def partK (cs : List Leaf) (o n : Nat) : Bool → Option V
  | true => (cut cs o n).map .agg
  | false => (cs[o]?).map .one
theorem partV_eq (t : TypeId) (cs : List Leaf) (o : Nat) : partV P t cs o = (tagg P t).bind fun g => (tsize P t).bind fun n => partK cs o n g := by
  unfold partV
  cases tagg P t with
  | none => rfl
  | some g => cases tsize P t with
    | none => rfl
    | some n => cases g <;> rfl
theorem partK_one (cs : List Leaf) (o n : Nat) : partK cs o n false = (cs[o]?).map .one := rfl
theorem partK_agg (cs : List Leaf) (o n : Nat) : partK cs o n true = (cut cs o n).map .agg := rfl

/-! Cuts of cells that are told one by one. -/
theorem cut_cons0 (c : Leaf) (cs : List Leaf) (n : Nat) : cut (c :: cs) 0 (n + 1) = (cut cs 0 n).map (c :: ·) := by
  unfold cut
  by_cases h : n ≤ cs.length
  · simp [h]
  · rw [if_neg (by simp; omega), if_neg (by omega)]; rfl
theorem cut_zero (cs : List Leaf) : cut cs 0 0 = some [] := by simp [cut]
theorem cut_succ (c : Leaf) (cs : List Leaf) (o n : Nat) : cut (c :: cs) (o + 1) n = cut cs o n := by
  unfold cut
  by_cases h : o + n ≤ cs.length
  · rw [if_pos h, if_pos (by simp; omega)]; rfl
  · rw [if_neg h, if_neg (by simp; omega)]
theorem wr_ptr (H : Heap) (id sz i off : Nat) (new : List Leaf) : wr H (.ptr id sz i off) new = (rowAt H id sz).bind fun r => (r.2[i]?).bind fun cs =>
    if off + new.length ≤ cs.length then some (H.set id (some (.row r.1 (r.2.set i (putCells cs off new)))), [id]) else none := rfl
theorem put_cells0 (c x : Leaf) (cs xs : List Leaf) : putCells (c :: cs) 0 (x :: xs) = x :: putCells cs 0 xs := by simp [putCells]
theorem put_cellsS (c : Leaf) (cs xs : List Leaf) (o : Nat) : putCells (c :: cs) (o + 1) xs = c :: putCells cs o xs := by
  have : o + 1 + xs.length = (o + xs.length) + 1 := by omega
  simp only [putCells, List.take_succ_cons, List.cons_append, this, List.drop_succ_cons]
theorem put_cells_nil (cs : List Leaf) : putCells cs 0 [] = cs := by simp [putCells]
/-! Slices that a call makes and grows. -/
variable {H : Heap}

structure ElemT (P : Program) (t : TypeId) (s b : Nat) (z : List Leaf) : Prop where
  elem : ∃ e, telem P t = some e ∧ (P.info? e).map (fun i => (i.size, i.bytes)) = some (s, b) ∧ tzero P e = some z
  len : z.length = s
  pos : 0 < s
  bytes : 0 < b

theorem ElemT.mk' {t e : TypeId} {s b : Nat} {z : List Leaf} (h1 : telem P t = some e) (h2 : (P.info? e).map (fun i => (i.size, i.bytes)) = some (s, b)) (h3 : tzero P e = some z) (h4 : z.length = s) (h5 : 0 < s) (h6 : 0 < b) : ElemT P t s b z := ⟨⟨e, h1, h2, h3⟩, h4, h5, h6⟩

theorem op_buildSlice {cf : CF} {dst : Option Nat} {ty : TypeId} {pos : String} {after : Array Edge} {guard : Option (Nat × Bool)} {T : Tmps} (t : TypeId) (len : Nat) (ps : Array (Nat × Operand)) : absOp P cf none T H ⟨dst, .buildSlice t len ps, ty, pos, after, guard⟩ = buildSliceV P none H t len (ps.toList.map fun p => (p.1, ev T p.2)) := rfl

theorem build_one {t : TypeId} {b : Nat} {z : List Leaf} (E : ElemT P t 1 b z) (x : Leaf) : buildSliceV P none H t 1 [(0, .one x)] = some (.one (.sl H.length 1 1 0 1), H ++ [some (.row 1 [[x]])], []) := by
  obtain ⟨⟨e, h1, h2, h3⟩, h4, _, _⟩ := E
  obtain ⟨i, h5, h6⟩ := Option.map_eq_some_iff.1 h2
  obtain ⟨h7, h8⟩ := Prod.mk.inj h6
  obtain ⟨z0, rfl⟩ : ∃ z0, z = [z0] := by match z, h4 with | [z0], _ => exact ⟨z0, rfl⟩
  simp [buildSliceV, h1, h5, h3, h7, fillAt, V.cells, putCells, chunk, allocR, put]

theorem build_agg {t : TypeId} {s b : Nat} {z : List Leaf} (E : ElemT P t s b z) {cs : List Leaf} (hc : cs.length = s) (hs : s ≤ 16777216) : buildSliceV P none H t 1 [(0, .agg cs)] = some (.one (.sl H.length s 1 0 1), H ++ [some (.row s [cs])], []) := by
  obtain ⟨⟨e, h1, h2, h3⟩, h4, h9, _⟩ := E
  obtain ⟨i, h5, h6⟩ := Option.map_eq_some_iff.1 h2
  obtain ⟨h7, h8⟩ := Prod.mk.inj h6
  have e1 : putCells z 0 cs = cs := by simp [putCells, h4, hc]
  have e2 : cs.take s = cs := List.take_of_length_le (by omega)
  simp [buildSliceV, h1, h5, h3, h7, fillAt, V.cells, hc, h4, e1, e2, chunk, allocR, put, show ¬ s = 0 by omega, show ¬ 16777216 < s by omega]

def Room (n b : Nat) : Bool := decide (n * b ≤ 140737488355328)
theorem room_of {n b : Nat} (h : n * b ≤ 140737488355328) : Room n b = true := decide_eq_true h

def appK (s b : Nat) (H : Heap) (id sz : Nat) : Option (Nat × List (List Leaf)) → Option (List (List Leaf)) → Res
  | some r, some xs => if r.1 = s then
      (if xs = [] then some (.one (.sl id s sz 0 sz), H, []) else if Room (sz + xs.length) b then some (.one (.sl id s (sz + xs.length) 0 (sz + xs.length)), H.set id (some (.row s (r.2 ++ xs))), [id]) else none) else none
  | _, _ => none

theorem append_sl {t : TypeId} {s b : Nat} {z : List Leaf} (E : ElemT P t s b z) (x : V) (id sz : Nat) : appendV P none H t t (.one (.sl id s sz 0 sz)) x = appK s b H id sz (rowAt H id sz) (srcOf P H s t x) := by
  obtain ⟨⟨e, h1, h2, h3⟩, h4, h9, h10⟩ := E
  obtain ⟨i, h5, h6⟩ := Option.map_eq_some_iff.1 h2
  obtain ⟨h7, h8⟩ := Prod.mk.inj h6
  simp only [appendV, h1, h5, h3, h7, h8, Option.bind_some]
  cases hx : srcOf P H s t x with
  | none => cases rowAt H id sz <;> rfl
  | some xs =>
    cases hr : rowAt H id sz with
    | none => simp [appK, show ¬ s = 0 by omega]
    | some r =>
      simp only [appK, Option.bind_some]
      by_cases hr1 : r.1 = s
      · have hroom : (Room (sz + xs.length) b = true) ↔ (sz + xs.length) * b ≤ 140737488355328 ∧ sz + xs.length ≤ 140737488355328 := by
          unfold Room
          rw [decide_eq_true_iff]
          exact ⟨fun h => ⟨h, Nat.le_trans (Nat.le_mul_of_pos_right _ h10) h⟩, fun h => h.1⟩
        by_cases hx0 : xs = []
        · simp [hr1, hx0, show ¬ s = 0 by omega]
        · have hx1 : xs.length ≠ 0 := fun h => hx0 (List.eq_nil_of_length_eq_zero h)
          simp [hr1, hx0, hx1, hroom, show ¬ s = 0 by omega]
      · simp [hr1, show ¬ s = 0 by omega]

def appN (s b : Nat) (H : Heap) (l : Leaf) : Option (List (List Leaf)) → Res
  | some xs => if xs = [] then some (.one l, H, []) else if Room xs.length b then some (.one (.sl H.length s xs.length 0 xs.length), H ++ [some (.row s xs)], []) else none
  | _ => none

theorem append_nils {t : TypeId} {s b : Nat} {z : List Leaf} (E : ElemT P t s b z) (x : V) : appendV P none H t t (.one .nils) x = appN s b H .nils (srcOf P H s t x) := by
  obtain ⟨⟨e, h1, h2, h3⟩, h4, h9, h10⟩ := E
  obtain ⟨i, h5, h6⟩ := Option.map_eq_some_iff.1 h2
  obtain ⟨h7, h8⟩ := Prod.mk.inj h6
  simp only [appendV, h1, h5, h3, h7, h8, Option.bind_some]
  cases hx : srcOf P H s t x with
  | none => rfl
  | some xs =>
    have hroom : (Room xs.length b = true) ↔ xs.length * b ≤ 140737488355328 ∧ xs.length ≤ 140737488355328 := by
      unfold Room
      rw [decide_eq_true_iff]
      exact ⟨fun h => ⟨h, Nat.le_trans (Nat.le_mul_of_pos_right _ h10) h⟩, fun h => h.1⟩
    by_cases hx0 : xs = []
    · simp [appN, hx0, show ¬ s = 0 by omega]
    · have hx1 : xs.length ≠ 0 := fun h => hx0 (List.eq_nil_of_length_eq_zero h)
      simp [appN, hx0, hroom, show ¬ s = 0 by omega, allocR, put]

theorem append_zsl {t : TypeId} {s b : Nat} {z : List Leaf} (E : ElemT P t s b z) (x : V) : appendV P none H t t (.one .zsl) x = appN s b H .zsl (srcOf P H s t x) := by
  obtain ⟨⟨e, h1, h2, h3⟩, h4, h9, h10⟩ := E
  obtain ⟨i, h5, h6⟩ := Option.map_eq_some_iff.1 h2
  obtain ⟨h7, h8⟩ := Prod.mk.inj h6
  simp only [appendV, h1, h5, h3, h7, h8, Option.bind_some]
  cases hx : srcOf P H s t x with
  | none => rfl
  | some xs =>
    have hroom : (Room xs.length b = true) ↔ xs.length * b ≤ 140737488355328 ∧ xs.length ≤ 140737488355328 := by
      unfold Room
      rw [decide_eq_true_iff]
      exact ⟨fun h => ⟨h, Nat.le_trans (Nat.le_mul_of_pos_right _ h10) h⟩, fun h => h.1⟩
    by_cases hx0 : xs = []
    · simp [appN, hx0, show ¬ s = 0 by omega]
    · have hx1 : xs.length ≠ 0 := fun h => hx0 (List.eq_nil_of_length_eq_zero h)
      simp [appN, hx0, hroom, show ¬ s = 0 by omega, allocR, put]

def srcK (s : Nat) : Option (List (List Leaf)) → Option (List (List Leaf))
  | some es => if sized s es = true then some es else none
  | none => none
theorem srcOf_eq (t : TypeId) (s : Nat) (l : Leaf) : srcOf P H s t (.one l) = if isSl P t then srcK s (view H l) else none := by
  unfold srcOf isSl
  cases hu : P.underlying t with
  | none => rfl
  | some d =>
    cases d
    case slice e => simp only [if_true]; cases view H l <;> rfl
    all_goals rfl
theorem view_isl (es : List (List Leaf)) : view H (.isl es) = some es := rfl
theorem view_nils : view H .nils = some [] := rfl
theorem view_zsl : view H .zsl = some [] := rfl
def viewK (esz sz : Nat) : Option (Nat × List (List Leaf)) → Option (List (List Leaf))
  | some r => if r.1 = esz then some r.2 else none
  | none => none
theorem view_sl (id esz sz : Nat) : view H (.sl id esz sz 0 sz) = viewK esz sz (rowAt H id sz) := by
  simp only [view]
  cases hr : rowAt H id sz with
  | none => rfl
  | some r =>
    have := (rowAt_some hr).2
    subst this
    simp [viewK]

theorem make_room {t : TypeId} {s b : Nat} {z : List Leaf} (E : ElemT P t s b z) (k k' : IntKind) {l c : Nat} (hl : l ≤ c) (hr : c * b ≤ 140737488355328) : makeSliceV P none H t (.one (.int k (l : Nat))) (.one (.int k' (c : Nat))) = some (.one (.sl H.length s l 0 l), H ++ [some (.row s (List.replicate l z))], []) := by
  obtain ⟨⟨e, h1, h2, h3⟩, h4, h9, h10⟩ := E
  obtain ⟨i, h5, h6⟩ := Option.map_eq_some_iff.1 h2
  obtain ⟨h7, h8⟩ := Prod.mk.inj h6
  have hc : c ≤ 281474976710656 := by
    have := Nat.le_mul_of_pos_right c h10
    omega
  have hb : b * c ≤ 281474976710656 := by rw [Nat.mul_comm]; omega
  simp [makeSliceV, h1, h5, h3, h7, h8, natOf, hl, hb, hc, h9, allocR, put]
end

/-! Structs that are built; what is compared. -/
section
variable {P : Program}

def nthP {α : Type} : List α → Nat → Option α
  | [], _ => none
  | x :: _, 0 => some x
  | _ :: l, n + 1 => nthP l n
theorem nthP_eq {α : Type} : ∀ (l : List α) (i : Nat), l[i]? = nthP l i
  | [], _ => rfl
  | x :: l, 0 => rfl
  | x :: l, i + 1 => by rw [List.getElem?_cons_succ]; exact nthP_eq l i

def placesOf (P : Program) (t : TypeId) : Option (List (Nat × Nat)) := match P.underlying t with
  | some (.struct fs) => structPlaces P fs.toList
  | _ => none
def fillK (ps : List (Nat × Nat)) : List Leaf → List (Nat × V) → Option (List Leaf)
  | cells, [] => some cells
  | cells, (i, v) :: rest => match nthP ps i, v with
    | some q, .one l => if q.2 = 1 ∧ q.1 + 1 ≤ cells.length then fillK ps (putCells cells q.1 [l]) rest else none
    | some q, .agg cs => if cs.length = q.2 ∧ q.1 + cs.length ≤ cells.length then fillK ps (putCells cells q.1 cs) rest else none
    | _, _ => none
theorem fillAt_eq (ps : List (Nat × Nat)) : ∀ (parts : List (Nat × V)) (cells : List Leaf), fillAt (fun k => ps[k]?) cells parts = fillK ps cells parts
  | [], cells => by simp [fillAt, fillK]
  | (i, v) :: rest, cells => by
    unfold fillAt fillK
    simp only [nthP_eq]
    cases nthP ps i with
    | none => rfl
    | some q =>
      obtain ⟨off, size⟩ := q
      cases v with
      | junk => rfl
      | tup _ => rfl
      | one l =>
        by_cases h : size = 1 ∧ off + 1 ≤ cells.length
        · have h' : ¬ ((V.one l).cells.length ≠ size ∨ off + (V.one l).cells.length > cells.length) := by simp [V.cells]; omega
          have := fillAt_eq ps rest (putCells cells off [l])
          simp only [nthP_eq] at this
          simp only [if_neg h', if_pos h]
          exact this
        · have h' : (V.one l).cells.length ≠ size ∨ off + (V.one l).cells.length > cells.length := by simp [V.cells]; omega
          simp only [if_pos h', if_neg h]
      | agg cs =>
        by_cases h : cs.length = size ∧ off + cs.length ≤ cells.length
        · have h' : ¬ ((V.agg cs).cells.length ≠ size ∨ off + (V.agg cs).cells.length > cells.length) := by simp only [V.cells]; omega
          have := fillAt_eq ps rest (putCells cells off cs)
          simp only [nthP_eq] at this
          simp only [if_neg h', if_pos h]
          exact this
        · have h' : (V.agg cs).cells.length ≠ size ∨ off + (V.agg cs).cells.length > cells.length := by simp only [V.cells]; omega
          simp only [if_pos h', if_neg h]
theorem build_struct {t : TypeId} {z : List Leaf} {ps : List (Nat × Nat)} (h1 : tzero P t = some z) (h2 : placesOf P t = some ps) (parts : List (Nat × V)) : buildV P t parts = (fillK ps z parts).map .agg := by
  unfold placesOf at h2
  split at h2
  · rename_i fs hu
    simp only [buildV, h1, hu, h2, Option.bind_some, fillAt_eq]
  · cases h2

def kindU : Option TypeDesc → Nat
  | some .bool => 1
  | some (.int _) => 2
  | some .string => 3
  | _ => 0
def fInfo (P : Program) (t : TypeId) : Option (List (Bool × Nat × Nat)) := match P.underlying t with
  | some (.struct fs) => if P.eqGuardType P.depth t = false ∧ P.stoodInHeld t = false then some (fs.toList.map fun f => (decide (f.name = "_"), f.offset, kindU (P.underlying f.type))) else none
  | _ => none
def eqLf : Nat → Leaf → Leaf → Option Bool
  | 1, .bool x, .bool y => some (x == y)
  | 2, .int j x, .int k y => if j = k then some (x == y) else none
  | 3, .str x, .str y => some (x == y)
  | _, _, _ => none
def eqInfo (xs ys : List Leaf) : List (Bool × Nat × Nat) → Option Bool
  | [] => some true
  | (true, _, _) :: _ => none
  | (false, off, k) :: r => match nthP xs off, nthP ys off with
    | some x, some y => match eqLf k x y with
      | some true => eqInfo xs ys r
      | r => r
    | _, _ => none
theorem eqFields_info (xs ys : List Leaf) : ∀ fs : List Field, eqFields P xs ys fs = eqInfo xs ys (fs.map fun f => (decide (f.name = "_"), f.offset, kindU (P.underlying f.type)))
  | [] => rfl
  | f :: fs => by
    have ih := eqFields_info xs ys fs
    unfold eqFields
    rw [List.map_cons]
    by_cases hn : f.name = "_"
    · simp [hn, eqInfo]
    · simp only [hn, if_false, decide_false, eqInfo, nthP_eq, ih]
      cases hx : nthP xs f.offset with
      | none => cases P.underlying f.type with
        | none => rfl
        | some d => cases d <;> rfl
      | some x =>
        cases hy : nthP ys f.offset with
        | none => cases P.underlying f.type with
          | none => rfl
          | some d => cases d <;> cases x <;> rfl
        | some y =>
          cases hu : P.underlying f.type with
          | none => cases x <;> cases y <;> rfl
          | some d =>
            cases d
            case bool =>
              cases x <;> cases y <;> try rfl
              rename_i a b; simp only [kindU, eqLf]; cases a == b <;> rfl
            case int k =>
              cases x <;> cases y <;> try rfl
              rename_i j a k b; simp only [kindU, eqLf]; by_cases hjk : j = k
              · simp only [hjk, if_true]; cases a == b <;> rfl
              · simp only [hjk, if_false]
            case string =>
              cases x <;> cases y <;> try rfl
              rename_i a b; simp only [kindU, eqLf]; cases a == b <;> rfl
            all_goals cases x <;> cases y <;> rfl
theorem eqV_info {t : TypeId} {is : List (Bool × Nat × Nat)} (h : fInfo P t = some is) (xs ys : List Leaf) : eqV P t (.agg xs) (.agg ys) = eqInfo xs ys is := by
  unfold fInfo at h
  split at h
  · rename_i fs hu
    split at h
    · rename_i hg
      cases h
      simp only [eqV, hu, hg, and_self, if_true, eqFields_info]
    · cases h
  · cases h

def isBo (P : Program) (t : TypeId) : Bool := match P.underlying t with
  | some .bool => true
  | _ => false
def isPt (P : Program) (t : TypeId) : Bool := match P.underlying t with
  | some (.pointer _) => true
  | _ => false
theorem eql_agg (t : TypeId) (xs ys : List Leaf) : binV P .eql t (.agg xs) (.agg ys) = (eqV P t (.agg xs) (.agg ys)).map fun b => .one (.bool b) := rfl
theorem neq_agg (t : TypeId) (xs ys : List Leaf) : binV P .neq t (.agg xs) (.agg ys) = (eqV P t (.agg xs) (.agg ys)).map fun b => .one (.bool (!b)) := rfl
theorem eqLeaf_bool (t : TypeId) (a b : Bool) : eqLeaf P t (.bool a) (.bool b) = if isBo P t then some (a == b) else none := by
  unfold eqLeaf isBo
  cases hu : P.underlying t with
  | none => rfl
  | some d => cases d <;> rfl
theorem eql_bool (t : TypeId) (a b : Bool) : binV P .eql t (.one (.bool a)) (.one (.bool b)) = if isBo P t then some (.one (.bool (a == b))) else none := by
  show (eqLeaf P t (.bool a) (.bool b)).map _ = _
  rw [eqLeaf_bool]; split <;> rfl
theorem neq_bool (t : TypeId) (a b : Bool) : binV P .neq t (.one (.bool a)) (.one (.bool b)) = if isBo P t then some (.one (.bool (a != b))) else none := by
  show (eqLeaf P t (.bool a) (.bool b)).map _ = _
  rw [eqLeaf_bool]; split <;> rfl
theorem eqLeaf_iptr (t : TypeId) (cs : List Leaf) (off : Nat) : eqLeaf P t (.iptr cs off) .nilp = if isPt P t then some false else none := by
  unfold eqLeaf isPt
  cases hu : P.underlying t with
  | none => rfl
  | some d => cases d <;> rfl
theorem eqLeaf_ptr (t : TypeId) (id sz i off : Nat) : eqLeaf P t (.ptr id sz i off) .nilp = if isPt P t then some false else none := by
  unfold eqLeaf isPt
  cases hu : P.underlying t with
  | none => rfl
  | some d => cases d <;> rfl
theorem eqLeaf_nilp (t : TypeId) : eqLeaf P t .nilp .nilp = if isPt P t then some true else none := by
  unfold eqLeaf isPt
  cases hu : P.underlying t with
  | none => rfl
  | some d => cases d <;> rfl
theorem eql_nilp (t : TypeId) (l : Leaf) : binV P .eql t (.one l) (.one .nilp) = (eqLeaf P t l .nilp).map fun b => .one (.bool b) := by cases l <;> rfl
theorem neq_nilp (t : TypeId) (l : Leaf) : binV P .neq t (.one l) (.one .nilp) = (eqLeaf P t l .nilp).map fun b => .one (.bool (!b)) := by cases l <;> rfl
end
end Go.Proofs.YtkbdhjfjbkmkcaaGreat.Abs
