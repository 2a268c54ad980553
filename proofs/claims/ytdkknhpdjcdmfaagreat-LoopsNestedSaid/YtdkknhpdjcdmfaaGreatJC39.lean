/- YtdkknhpdjcdmfaaGreatJC39: texts that follow each other, as one. -/
import Derived.Test.YtdkknhpdjcdmfaaGreatJC38
/- What a call does to an object of its caller's: a heap with one object told anew. Bytes. -/
set_option linter.unusedSimpArgs false
set_option linter.unusedVariables false
namespace Go.Proofs.YtdkknhpdjcdmfaaGreat.Abs
open Go Go.RowKit Go.Proofs

def nilK : V → Option V
  | .one (.ptr a b c d) => some (.one (.ptr a b c d))
  | .one (.iptr a b) => some (.one (.iptr a b))
  | .one (.fn a b) => some (.one (.fn a b))
  | _ => none
@[simp] theorem op_nilCheck {P : Program} {cf : CF} {slot : Option Nat} {T : Tmps} {h : Heap} {dst : Option Nat} {ty : TypeId} {pos : String} {after : Array Edge} {guard : Option (Nat × Bool)} (x : Operand) :
    absOp P cf slot T h ⟨dst, .nilCheck x, ty, pos, after, guard⟩ = pureR h (nilK (ev T x)) := by
  simp only [absOp, nilK]
  split <;> simp_all [pureR]
attribute [simp] nilK

/-- A heap with the object at one place told anew. -/
def updH (h : Heap) (k z : Nat) (es : List (List Leaf)) : Heap := h.set k (some (.row z es))
section
variable {h t : Heap} {k z : Nat} {es : List (List Leaf)}
@[simp] theorem upd_length : (updH h k z es).length = h.length := by simp [updH]
theorem upd_self (hr : h[k]? = some (some (.row z es))) : updH h k z es = h := by
  unfold updH
  apply List.ext_getElem?
  intro i
  rw [List.getElem?_set]
  split
  · rename_i hi; subst hi
    rw [hr]
    split
    · rfl
    · rename_i hn; rw [List.getElem?_eq_none (by omega)] at hr; cases hr
  · rfl
@[simp] theorem upd_get (hk : k < h.length) : (updH h k z es)[k]? = some (some (.row z es)) := by simp [updH, hk]
@[simp] theorem upd_get' (hk : k < h.length) : (updH h k z es ++ t)[k]? = some (some (.row z es)) := by
  rw [List.getElem?_append_left (by simpa using hk), upd_get hk]
@[simp] theorem upd_row (hk : k < h.length) (sz : Nat) : rowAt (updH h k z es) k sz = if es.length = sz then some (z, es) else none := by
  simp [rowAt, upd_get hk]
@[simp] theorem upd_row' (hk : k < h.length) (sz : Nat) : rowAt (updH h k z es ++ t) k sz = if es.length = sz then some (z, es) else none := by
  simp [rowAt, upd_get' hk]
theorem upd_ne {k2 : Nat} (hn : k2 ≠ k) : (updH h k z es)[k2]? = h[k2]? := by
  unfold updH
  rw [List.getElem?_set_ne (fun e => hn e.symm)]
theorem upd_row_ne {k2 : Nat} (hn : k2 ≠ k) (sz : Nat) : rowAt (updH h k z es) k2 sz = rowAt h k2 sz := by
  simp only [rowAt, upd_ne hn]
theorem upd_row_ne' {k2 : Nat} (hn : k2 ≠ k) (hl : k2 < h.length) (sz : Nat) : rowAt (updH h k z es ++ t) k2 sz = rowAt h k2 sz := by
  simp only [rowAt]
  rw [List.getElem?_append_left (by simpa using hl), upd_ne hn]
@[simp] theorem upd_at0 : (updH h k z es ++ t)[h.length]? = nthO t 0 := by
  have := heap_at0 (h := updH h k z es) (t := t); rwa [upd_length] at this
@[simp] theorem upd_at (j : Nat) : (updH h k z es ++ t)[h.length + j]? = nthO t j := by
  have := heap_at (h := updH h k z es) (t := t) j; rwa [upd_length] at this
@[simp] theorem upd_row_at0 (sz : Nat) : rowAt (updH h k z es ++ t) h.length sz = rowAt t 0 sz := by
  have := row_at0 (h := updH h k z es) (t := t) sz; rwa [upd_length] at this
@[simp] theorem upd_row_at (j sz : Nat) : rowAt (updH h k z es ++ t) (h.length + j) sz = rowAt t j sz := by
  have := row_at (h := updH h k z es) (t := t) j sz; rwa [upd_length] at this
@[simp] theorem upd_set (z' : Nat) (es' : List (List Leaf)) : (updH h k z es).set k (some (.row z' es')) = updH h k z' es' := by
  simp [updH, List.set_set]
@[simp] theorem upd_set' (hk : k < h.length) (z' : Nat) (es' : List (List Leaf)) : (updH h k z es ++ t).set k (some (.row z' es')) = updH h k z' es' ++ t := by
  rw [List.set_append_left _ _ (by simpa using hk), upd_set]
@[simp] theorem upd_set_at0 (o : Option AO) : (updH h k z es ++ t).set h.length o = updH h k z es ++ t.set 0 o := by
  have := set_at0 (h := updH h k z es) (t := t) o; rwa [upd_length] at this
@[simp] theorem upd_set_at (j : Nat) (o : Option AO) : (updH h k z es ++ t).set (h.length + j) o = updH h k z es ++ t.set j o := by
  have := set_at (h := updH h k z es) (t := t) j o; rwa [upd_length] at this
@[simp] theorem upd_take0 : (updH h k z es).take h.length = updH h k z es := by
  rw [List.take_of_length_le (by simp)]
@[simp] theorem upd_take : (updH h k z es ++ t).take h.length = updH h k z es := by
  have := List.take_left (l₁ := updH h k z es) (l₂ := t); rwa [upd_length] at this
end

@[simp] theorem fzH_cons {h : Heap} {n0 : Nat} {L : List (Option Nat)} (id : Nat) (ids : List Nat) (acc : Heap) : fzH h n0 L (id :: ids) acc = (objK h n0 L h[id]?).bind fun o => fzH h n0 L ids (acc.set id o) := by
  rw [fzH]
  cases h[id]? with
  | none => rfl
  | some o => cases o with
    | none => rfl
    | some o => cases o with
      | row z es => simp only [objK, fzO, ← rows_eq]; cases mapO (mapO (fzT h n0 L)) es <;> rfl
      | mp es => simp only [objK]; cases fzO h n0 L (.mp es) <;> rfl

@[simp] theorem wsOf_one {n0 k : Nat} (hk : k < n0) : wsOf n0 [k] = [k] := by
  simp [wsOf, hk, List.eraseDups_cons]
@[simp] theorem wsOf_dup {n0 k : Nat} (ws : List Nat) : wsOf n0 (k :: k :: ws) = wsOf n0 (k :: ws) := by
  unfold wsOf
  by_cases hk : k < n0
  · simp [hk, List.eraseDups_cons]
  · simp [hk]
@[simp] theorem wsOf_skip {n0 k i : Nat} (ws : List Nat) (hi : n0 ≤ i) : wsOf n0 (k :: i :: ws) = wsOf n0 (k :: ws) := by
  unfold wsOf
  by_cases hk : k < n0
  · simp [hk, show ¬ i < n0 by omega]
  · simp [hk, show ¬ i < n0 by omega]

@[simp] theorem dups_nil {α : Type} [BEq α] : ([] : List α).eraseDups = [] := rfl
@[simp] theorem dups_one {α : Type} [BEq α] (a : α) : [a].eraseDups = [a] := by simp [List.eraseDups_cons]

/-- Numbers out of cells. -/
def deInts (es : List (List Leaf)) : List Int := es.map fun c => match c with
  | [.int _ n] => n
  | _ => 0
@[simp] theorem deInts_ints (xs : List Int) : deInts (intsOf xs) = xs := by
  unfold deInts intsOf
  rw [List.map_map]
  exact (List.map_congr_left fun _ _ => rfl).trans (List.map_id _)

def u8sOf (xs : List Int) : List (List Leaf) := xs.map fun n => [.int .u8 n]
@[simp] theorem u8sOf_length (xs : List Int) : (u8sOf xs).length = xs.length := by simp [u8sOf]
@[simp] theorem u8sOf_get (xs : List Int) (i : Nat) : (u8sOf xs)[i]? = (xs[i]?).map fun n => [.int .u8 n] := by simp [u8sOf]
@[simp] theorem u8sOf_plain (xs : List Int) : plainR (u8sOf xs) = true := plainR_map (fun _ => rfl) xs
@[simp] theorem u8sOf_tree (xs : List Int) : treeR (u8sOf xs) = true := treeR_map (fun _ => rfl) xs
theorem u8sOf_snoc (xs : List Int) (n : Int) : u8sOf xs ++ [[.int .u8 n]] = u8sOf (xs ++ [n]) := by simp [u8sOf]
theorem u8sOf_app (xs ys : List Int) : u8sOf xs ++ u8sOf ys = u8sOf (xs ++ ys) := by simp [u8sOf]
@[simp] theorem u8sOf_nil : u8sOf [] = [] := rfl
theorem u8sOf_one (n : Int) : [[Leaf.int .u8 n]] = u8sOf [n] := rfl
@[simp] theorem sized_bytes (xs : List Int) : sized 1 (u8sOf xs) = true := sized_map (n := 1) (f := fun n => [.int .u8 n]) (fun _ => rfl) xs

theorem wrap_u8 (n : Int) : IntKind.u8.wrap n = n % 256 := by
  simp [IntKind.wrap, IntKind.min, IntKind.max, IntKind.signed, IntKind.bits]
theorem u8_or (n : Int) : IntKind.u8.wrap ((BitVec.ofInt IntKind.u8.bits (IntKind.u8.wrap n) ||| BitVec.ofInt IntKind.u8.bits 128).toNat : Int) = n % 128 + 128 := by
  have key : ∀ m : Fin 256, ((BitVec.ofInt 8 (m.val : Int) ||| BitVec.ofInt 8 128).toNat : Int) = (m.val : Int) % 128 + 128 := by decide +kernel
  have h1 : n % 256 = (((n % 256).toNat : Nat) : Int) := by omega
  have h2 := key ⟨(n % 256).toNat, by omega⟩
  simp only at h2
  rw [wrap_u8 n, h1]
  show IntKind.u8.wrap ((BitVec.ofInt 8 _ ||| BitVec.ofInt 8 128).toNat : Int) = _
  rw [h2, wrap_u8]
  omega
theorem u8_or' (n : Int) : IntKind.u8.wrap (((IntKind.u8.wrap n % 2 ^ IntKind.u8.bits).toNat ||| 128 % 2 ^ IntKind.u8.bits : Nat) : Int) = n % 128 + 128 := by
  have := u8_or n
  simpa using this
theorem u8_and (n : Int) (h0 : 0 ≤ n) (h1 : n < 256) : IntKind.u8.wrap ((BitVec.ofInt IntKind.u8.bits n &&& BitVec.ofInt IntKind.u8.bits 127).toNat : Int) = n % 128 := by
  have key : ∀ m : Fin 256, ((BitVec.ofInt 8 (m.val : Int) &&& BitVec.ofInt 8 127).toNat : Int) = (m.val : Int) % 128 := by decide +kernel
  have h3 : n = ((n.toNat : Nat) : Int) := by omega
  have h2 := key ⟨n.toNat, by omega⟩
  simp only at h2
  rw [h3]
  show IntKind.u8.wrap ((BitVec.ofInt 8 _ &&& BitVec.ofInt 8 127).toNat : Int) = _
  rw [h2, wrap_u8]
  omega
theorem u8_and' (n : Int) (h0 : 0 ≤ n) (h1 : n < 256) : IntKind.u8.wrap (((n % 2 ^ IntKind.u8.bits).toNat &&& 127 % 2 ^ IntKind.u8.bits : Nat) : Int) = n % 128 := by
  have := u8_and n h0 h1
  simpa using this
end Go.Proofs.YtdkknhpdjcdmfaaGreat.Abs

/- A walk through blocks: what it works on is its caller's. -/
set_option linter.unusedSimpArgs false
set_option linter.unusedVariables false
namespace Go.Proofs.YtdkknhpdjcdmfaaGreat.Abs
open Go Go.RowKit Go.Proofs

def boolsOf (bs : List Bool) : List (List Leaf) := bs.map fun b => [.bool b]
@[simp] theorem boolsOf_length (bs : List Bool) : (boolsOf bs).length = bs.length := by simp [boolsOf]
@[simp] theorem boolsOf_get (bs : List Bool) (i : Nat) : (boolsOf bs)[i]? = (bs[i]?).map fun b => [.bool b] := by simp [boolsOf]
@[simp] theorem boolsOf_plain (bs : List Bool) : plainR (boolsOf bs) = true := plainR_map (fun _ => rfl) bs
@[simp] theorem boolsOf_tree (bs : List Bool) : treeR (boolsOf bs) = true := treeR_map (fun _ => rfl) bs
@[simp] theorem sized_bools (bs : List Bool) : sized 1 (boolsOf bs) = true := sized_map (n := 1) (f := fun b : Bool => [Leaf.bool b]) (fun _ => rfl) bs
theorem boolsOf_set (bs : List Bool) (i : Nat) (b : Bool) : (boolsOf bs).set i [.bool b] = boolsOf (bs.set i b) := by simp [boolsOf, List.map_set]

/-- Does a cell stay as it is, where nothing is kept? -/
def stL (n0 : Nat) : Leaf → Bool
  | .ptr id _ _ _ => decide (id < n0)
  | .sl id _ _ _ _ => decide (id < n0)
  | .map id => decide (id < n0)
  | .fn _ caps => caps.all treeL
  | _ => true
@[simp] theorem stL_int (n0 : Nat) (k : IntKind) (n : Int) : stL n0 (.int k n) = true := rfl
@[simp] theorem stL_bool (n0 : Nat) (b : Bool) : stL n0 (.bool b) = true := rfl
@[simp] theorem stL_isl (n0 : Nat) (es : List (List Leaf)) : stL n0 (.isl es) = true := rfl
@[simp] theorem stL_iptr (n0 : Nat) (cs : List Leaf) (o : Nat) : stL n0 (.iptr cs o) = true := rfl
@[simp] theorem stL_ptr (n0 id sz i off : Nat) : stL n0 (.ptr id sz i off) = decide (id < n0) := rfl
@[simp] theorem stL_sl (n0 id s sz off len : Nat) : stL n0 (.sl id s sz off len) = decide (id < n0) := rfl
theorem stL_fz {H : Heap} {n0 : Nat} {L : List (Option Nat)} {l : Leaf} (h : stL n0 l = true) : fzT H n0 L l = some l := by
  cases l with
  | fn f caps =>
    show (mapO (fzR H n0 L) caps).map (Leaf.fn f) = _
    rw [mapO_id fun x hx => ?_]
    · rfl
    · have hx' := List.all_eq_true.1 h x hx
      cases x <;> first | rfl | (simp [treeL, plainL] at hx'; done)
  | ptr id sz i off => simp at h; rw [fzT_ptr, if_neg (by omega)]
  | sl id s sz off len => simp at h; rw [fzT_sl, if_neg (by omega)]
  | map id =>
    have h' : id < n0 := by simpa [stL] using h
    rw [fzT_map, if_neg (by omega)]
  | _ => rfl
/-- All that is carried is a value that stays. -/
def PlK (n0 : Nat) (T : Tmps) : List (Nat × Kd) → Prop
  | [] => True
  | e :: K => (e.2 = .p ∧ ∃ l, tget T e.1 = .one l ∧ stL n0 l = true) ∧ PlK n0 T K
theorem plK_kdL {H : Heap} {n0 : Nat} {T : Tmps} : ∀ {K : List (Nat × Kd)}, PlK n0 T K → kdL H n0 T K = []
  | [], _ => rfl
  | e :: K, h => by rw [kdL, h.1.1, plK_kdL h.2]; rfl
theorem plK_kdAll {H : Heap} {n0 : Nat} {L : List (Option Nat)} {T : Tmps} : ∀ {K : List (Nat × Kd)} (p : Nat), PlK n0 T K → kdAll H n0 L T p K = some (K.map fun e => (e.1, tget T e.1), [])
  | [], p, _ => rfl
  | e :: K, p, h => by
    obtain ⟨⟨h1, l, h2, h3⟩, h4⟩ := h
    have h5 : fzV H n0 L (.one l) = some (.one l) := by show (fzT _ _ _ l).map V.one = _; rw [stL_fz h3]; rfl
    unfold kdAll
    rw [h1]
    simp only [kdNew, h2, h5, List.length_nil, Nat.add_zero, plK_kdAll p h4]
    simp [h2]
/-- Written objects, whose cells stay. -/
def WsOK (H : Heap) (ws : List Nat) : Prop := ∀ id, id ∈ ws → id < H.length → ∃ z es, H[id]? = some (some (.row z es)) ∧ es.all (fun cs => cs.all (stL H.length)) = true
theorem fzH_call {H g : Heap} : ∀ (ws : List Nat), (∀ id, id ∈ ws → id < H.length) → WsOK H ws → fzH (H ++ g) H.length [] ws H = some H
  | [], _, _ => rfl
  | id :: ws, hl, hw => by
    have hid := hl id (by simp)
    obtain ⟨z, es, h1, h2⟩ := hw id (by simp) hid
    have h3 : (H ++ g)[id]? = some (some (.row z es)) := by rw [List.getElem?_append_left hid, h1]
    have h4 : mapO (mapO (fzT (H ++ g) H.length [])) es = some es := mapO_id fun cs hcs => mapO_id fun l hl => stL_fz (List.all_eq_true.1 (List.all_eq_true.1 h2 cs hcs) l hl)
    unfold fzH
    simp only [h3, fzO, h4, Option.map_some]
    have h5 : H.set id (some (.row z es)) = H := by
      apply List.ext_getElem?
      intro i
      rw [List.getElem?_set]
      split
      · rename_i hi; subst hi; rw [h1]
      · rfl
    rw [h5]
    exact fzH_call ws (fun x hx => hl x (by simp [hx])) fun x hx => hw x (by simp [hx])
theorem wsOf_mem {n0 : Nat} {ws : List Nat} {x : Nat} (h : x ∈ wsOf n0 ws) : x ∈ ws ∧ x < n0 := (mem_ws _ _ _).1 h
theorem tidy_call {H g : Heap} {n0 : Nat} {T : Tmps} {ws : List Nat} {K : List (Nat × Kd)} (hn : H.length = n0) (hK : PlK n0 T K) (hw : WsOK H ws) : tidy n0 K ⟨T, H ++ g, ws⟩ = ⟨K.map fun e => (e.1, tget T e.1), H, wsOf n0 ws⟩ := by
  subst hn
  have h1 := fzH_call (g := g) (wsOf H.length ws) (fun x hx => (wsOf_mem hx).2) fun x hx => hw x (wsOf_mem hx).1
  unfold tidy tidyO
  simp only [plK_kdL hK, plK_kdAll 0 hK, okL, if_true, List.take_left', h1, List.append_nil]
theorem tidy_call' {H : Heap} {n0 : Nat} {T : Tmps} {ws : List Nat} {K : List (Nat × Kd)} (hn : H.length = n0) (hK : PlK n0 T K) (hw : WsOK H ws) : tidy n0 K ⟨T, H, ws⟩ = ⟨K.map fun e => (e.1, tget T e.1), H, wsOf n0 ws⟩ := by
  have := tidy_call (g := []) hn hK hw
  simpa using this
theorem wrap_call {H g : Heap} {n0 : Nat} {ws : List Nat} (hn : H.length = n0) (hw : WsOK H ws) : wrapUp 0 n0 (.tup []) (H ++ g) ws = (.tup [], H, wsOf n0 ws) := by
  subst hn
  have h1 := fzH_call (g := g) (wsOf H.length ws) (fun x hx => (wsOf_mem hx).2) fun x hx => hw x (wsOf_mem hx).1
  unfold wrapUp wrapC wrapL
  simp [okL, fzV, mapO, List.take_left', h1, normV]
end Go.Proofs.YtdkknhpdjcdmfaaGreat.Abs

/- A walk through blocks: the heap on which it works. -/
set_option linter.unusedSimpArgs false
set_option linter.unusedVariables false
namespace Go.Proofs.YtdkknhpdjcdmfaaGreat.Abs
open Go Go.RowKit Go.Proofs

/-- A heap with a walk's three objects told anew: itself, which blocks were met, those that are done. -/
def updW (h : Heap) (k im ip : Nat) (ss : List (List Int)) (met : List Bool) (l : Nat) (post : List Int) : Heap :=
  ((h.set k (some (.row 3 [[.isl (listsOf ss), .sl im 1 ss.length 0 ss.length, .sl ip 1 l 0 l]]))).set im (some (.row 1 (boolsOf met)))).set ip (some (.row 1 (intsOf post)))
structure W3 (h : Heap) (k im ip : Nat) : Prop where
  hk : k < h.length
  hm : im < h.length
  hp : ip < h.length
  km : k ≠ im
  kp : k ≠ ip
  mp : im ≠ ip
section
variable {h t : Heap} {k im ip : Nat} {ss : List (List Int)} {met : List Bool} {l : Nat} {post : List Int}
@[simp] theorem updW_length : (updW h k im ip ss met l post).length = h.length := by simp [updW]
theorem updW_k (w : W3 h k im ip) : (updW h k im ip ss met l post)[k]? = some (some (.row 3 [[.isl (listsOf ss), .sl im 1 ss.length 0 ss.length, .sl ip 1 l 0 l]])) := by
  have h1 := w.km
  have h2 := w.kp
  have h3 := w.hk
  unfold updW
  rw [List.getElem?_set_ne (fun e => h2 e.symm), List.getElem?_set_ne (fun e => h1 e.symm)]
  simp [h3]
theorem updW_m (w : W3 h k im ip) : (updW h k im ip ss met l post)[im]? = some (some (.row 1 (boolsOf met))) := by
  have h1 := w.mp
  have h3 := w.hm
  unfold updW
  rw [List.getElem?_set_ne (fun e => h1 e.symm)]
  simp [h3]
theorem updW_p (w : W3 h k im ip) : (updW h k im ip ss met l post)[ip]? = some (some (.row 1 (intsOf post))) := by
  have h3 := w.hp
  unfold updW
  simp [h3]
theorem app_lt {i : Nat} (hi : i < h.length) : (updW h k im ip ss met l post ++ t)[i]? = (updW h k im ip ss met l post)[i]? := List.getElem?_append_left (by simpa using hi)
theorem rowW_k (w : W3 h k im ip) (sz : Nat) : rowAt (updW h k im ip ss met l post) k sz = if 1 = sz then some (3, [[.isl (listsOf ss), .sl im 1 ss.length 0 ss.length, .sl ip 1 l 0 l]]) else none := by
  simp [rowAt, updW_k w]
theorem rowW_m (w : W3 h k im ip) (sz : Nat) : rowAt (updW h k im ip ss met l post) im sz = if met.length = sz then some (1, boolsOf met) else none := by
  simp [rowAt, updW_m w]
theorem rowW_p (w : W3 h k im ip) (sz : Nat) : rowAt (updW h k im ip ss met l post) ip sz = if post.length = sz then some (1, intsOf post) else none := by
  simp [rowAt, updW_p w]
theorem rowW_k' (w : W3 h k im ip) (sz : Nat) : rowAt (updW h k im ip ss met l post ++ t) k sz = if 1 = sz then some (3, [[.isl (listsOf ss), .sl im 1 ss.length 0 ss.length, .sl ip 1 l 0 l]]) else none := by
  simp only [rowAt, app_lt w.hk, updW_k w]; rfl
theorem rowW_m' (w : W3 h k im ip) (sz : Nat) : rowAt (updW h k im ip ss met l post ++ t) im sz = if met.length = sz then some (1, boolsOf met) else none := by
  simp [rowAt, app_lt w.hm, updW_m w]
theorem rowW_p' (w : W3 h k im ip) (sz : Nat) : rowAt (updW h k im ip ss met l post ++ t) ip sz = if post.length = sz then some (1, intsOf post) else none := by
  simp [rowAt, app_lt w.hp, updW_p w]
@[simp] theorem rowW_at0 (sz : Nat) : rowAt (updW h k im ip ss met l post ++ t) h.length sz = rowAt t 0 sz := by
  have := row_at0 (h := updW h k im ip ss met l post) (t := t) sz; rwa [updW_length] at this
theorem set_comm3 {α : Type} (xs : List α) {i j : Nat} (hn : i ≠ j) (a b : α) : (xs.set i a).set j b = (xs.set j b).set i a := List.set_comm _ _ hn
theorem setW_m (w : W3 h k im ip) (met' : List Bool) : (updW h k im ip ss met l post).set im (some (.row 1 (boolsOf met'))) = updW h k im ip ss met' l post := by
  unfold updW
  rw [set_comm3 _ (fun e => w.mp e.symm), List.set_set]
theorem setW_p (w : W3 h k im ip) (post' : List Int) : (updW h k im ip ss met l post).set ip (some (.row 1 (intsOf post'))) = updW h k im ip ss met l post' := by
  unfold updW
  rw [List.set_set]
theorem setW_k (w : W3 h k im ip) (l' : Nat) : (updW h k im ip ss met l post).set k (some (.row 3 [[.isl (listsOf ss), .sl im 1 ss.length 0 ss.length, .sl ip 1 l' 0 l']])) = updW h k im ip ss met l' post := by
  unfold updW
  rw [set_comm3 _ (fun e => w.kp e.symm), set_comm3 _ (fun e => w.km e.symm), List.set_set]
theorem setW_m' (w : W3 h k im ip) (met' : List Bool) : (updW h k im ip ss met l post ++ t).set im (some (.row 1 (boolsOf met'))) = updW h k im ip ss met' l post ++ t := by
  rw [List.set_append_left _ _ (by simpa using w.hm), setW_m w]
theorem setW_p' (w : W3 h k im ip) (post' : List Int) : (updW h k im ip ss met l post ++ t).set ip (some (.row 1 (intsOf post'))) = updW h k im ip ss met l post' ++ t := by
  rw [List.set_append_left _ _ (by simpa using w.hp), setW_p w]
theorem setW_k' (w : W3 h k im ip) (l' : Nat) : (updW h k im ip ss met l post ++ t).set k (some (.row 3 [[.isl (listsOf ss), .sl im 1 ss.length 0 ss.length, .sl ip 1 l' 0 l']])) = updW h k im ip ss met l' post ++ t := by
  rw [List.set_append_left _ _ (by simpa using w.hk), setW_k w]
/-- What was written is one of the three. -/
def Ks3 (n0 k im ip : Nat) (ws : List Nat) : Prop := ∀ x, x ∈ ws → x < n0 → x = k ∨ x = im ∨ x = ip
theorem wsW (w : W3 h k im ip) {ws : List Nat} (hk : Ks3 h.length k im ip ws) : WsOK (updW h k im ip ss met l post) ws := by
  intro id hid hlt
  rw [updW_length] at hlt
  have h1 := w.hm
  have h2 := w.hp
  rcases hk id hid hlt with rfl | rfl | rfl
  · exact ⟨_, _, updW_k w, by simp [h1, h2]⟩
  · exact ⟨_, _, updW_m w, by simp [boolsOf]⟩
  · exact ⟨_, _, updW_p w, by simp [intsOf]⟩
end

/-- A walk: from a block on, through all that follow and were not met; each behind those. -/
def visitF (ss : List (List Int)) : Nat → Nat → List Bool × List Int → List Bool × List Int
  | 0, _, s => s
  | m + 1, v, s =>
    let r := (ss.getD v []).foldl (fun s b => if s.1.getD b.toNat false then s else visitF ss m b.toNat s) (s.1.set v true, s.2)
    (r.1, r.2 ++ [(v : Int)])
def unmet (met : List Bool) : Nat := met.count false
/-- What a walk keeps. -/
structure VInv (ss : List (List Int)) (s r : List Bool × List Int) : Prop where
  len : r.1.length = s.1.length
  un : unmet r.1 ≤ unmet s.1
  post : unmet r.1 + r.2.length ≤ unmet s.1 + s.2.length
theorem VInv.refl (ss : List (List Int)) (s : List Bool × List Int) : VInv ss s s := ⟨rfl, Nat.le_refl _, Nat.le_refl _⟩
theorem VInv.trans {ss : List (List Int)} {a b c : List Bool × List Int} (h : VInv ss a b) (g : VInv ss b c) : VInv ss a c :=
  ⟨g.len.trans h.len, Nat.le_trans g.un h.un, Nat.le_trans g.post h.post⟩
theorem unmet_set {met : List Bool} {v : Nat} (h : met[v]? = some false) : unmet (met.set v true) + 1 = unmet met := by
  unfold unmet
  induction met generalizing v with
  | nil => simp at h
  | cons b bs ih =>
    cases v with
    | zero => simp at h; subst h; simp
    | succ v =>
      simp at h
      have := ih h
      simp only [List.set_cons_succ, List.count_cons]
      omega
theorem visitF_inv (ss : List (List Int)) (hs : Edges ss) : ∀ (m v : Nat) (s : List Bool × List Int), s.1.length = ss.length → s.1[v]? = some false → VInv ss s (visitF ss m v s)
  | 0, v, s, _, _ => .refl ss s
  | m + 1, v, s, hl, hv => by
    have fold : ∀ (bs : List Int) (s : List Bool × List Int), s.1.length = ss.length → (∀ b, b ∈ bs → 0 ≤ b ∧ b < ss.length) → VInv ss s (bs.foldl (fun s b => if s.1.getD b.toNat false then s else visitF ss m b.toNat s) s) := by
      intro bs
      induction bs with
      | nil => intro s _ _; exact .refl ss s
      | cons b bs ih =>
        intro s hl hb
        rw [List.foldl_cons]
        have h0 := hb b (by simp)
        have h1 : VInv ss s (if s.1.getD b.toNat false then s else visitF ss m b.toNat s) := by
          split
          · exact .refl ss s
          · rename_i hn
            refine visitF_inv ss hs m b.toNat s hl ?_
            have hlt : b.toNat < s.1.length := by omega
            rw [List.getElem?_eq_getElem hlt]
            rw [List.getD, List.getElem?_eq_getElem hlt] at hn
            simpa using hn
        exact h1.trans (ih _ (h1.len.trans hl) fun x hx => hb x (by simp [hx]))
    have hb : ∀ b, b ∈ ss.getD v [] → 0 ≤ b ∧ b < ss.length := by
      intro b hb
      rw [List.getD] at hb
      cases he : ss[v]? with
      | none => rw [he] at hb; simp at hb
      | some l => rw [he] at hb; exact (hs.each l (List.mem_of_getElem? he)).2 b hb
    have h1 := fold (ss.getD v []) (s.1.set v true, s.2) (by simpa using hl) hb
    have h2 := unmet_set hv
    have h3 := h1.len
    have h4 := h1.un
    have h5 := h1.post
    simp only [List.length_set] at h3
    simp only at h4 h5
    refine ⟨?_, ?_, ?_⟩
    · simp only [visitF]; exact h3
    · simp only [visitF]; omega
    · simp only [visitF, List.length_append, List.length_cons, List.length_nil]; omega
end Go.Proofs.YtdkknhpdjcdmfaaGreat.Abs

/- A walk through blocks. -/
set_option linter.unusedSimpArgs false
set_option linter.unusedVariables false
namespace Go.Proofs.YtdkknhpdjcdmfaaGreat.Abs
open Go Go.RowKit Go.Proofs

def viS (h : Heap) (k im ip : Nat) (ss : List (List Int)) (v : Nat) (xs : List Int) (i : Nat) (met : List Bool) (post : List Int) (ws : List Nat) : St :=
  ⟨[(0, .one (.ptr k 1 0 0)), (1, I (v : Nat)), (20, I (i : Nat)), (19, I (xs.length : Nat)), (18, Sl (intsOf xs))], updW h k im ip ss met post.length post, ws⟩
theorem ks3_wsOf {n0 k im ip : Nat} {ws : List Nat} (h : Ks3 n0 k im ip ws) : Ks3 n0 k im ip (wsOf n0 ws) := fun x hx hl => h x (wsOf_mem hx).1 hl
theorem ks3_app {n0 k im ip : Nat} {ws ws' : List Nat} (h : Ks3 n0 k im ip ws) (g : Ks3 n0 k im ip ws') : Ks3 n0 k im ip (ws ++ ws') := fun x hx hl => by
  rcases List.mem_append.1 hx with hx | hx
  · exact h x hx hl
  · exact g x hx hl
theorem plK_nil (n0 : Nat) (T : Tmps) : PlK n0 T [] = True := rfl
theorem plK_cons (n0 : Nat) (T : Tmps) (i : Nat) (k : Kd) (K : List (Nat × Kd)) : PlK n0 T ((i, k) :: K) = ((k = .p ∧ ∃ l, tget T i = .one l ∧ stL n0 l = true) ∧ PlK n0 T K) := rfl

/-- What a call of the walk comes to. -/
def VisitOK (m : Nat) : Prop := ∀ (h : Heap) (k im ip : Nat) (w : W3 h k im ip) (ss : List (List Int)) (hs : Edges ss) (met : List Bool) (post : List Int) (v : Nat), met.length = ss.length → met[v]? = some false → unmet met ≤ m → unmet met + post.length ≤ 100000 →
  ∃ ws, CX 118 [.one (.ptr k 1 0 0), I (v : Nat)] (updW h k im ip ss met post.length post) = some (.tup [], updW h k im ip ss (visitF ss m v (met, post)).1 (visitF ss m v (met, post)).2.length (visitF ss m v (met, post)).2, ws) ∧ ∀ x, x ∈ ws → x = k ∨ x = im ∨ x = ip

theorem vi_loop (m : Nat) (ih : VisitOK m) (h : Heap) (k im ip : Nat) (w : W3 h k im ip) (ss : List (List Int)) (hs : Edges ss) (v : Nat) (xs : List Int) (hx : xs.length ≤ 1000) (hb : ∀ b, b ∈ xs → 0 ≤ b ∧ b < ss.length) (met : List Bool) (post : List Int) (hl : met.length = ss.length) (hu : unmet met ≤ m) (hp : unmet met + post.length ≤ 100000) (ws : List Nat) (hk : Ks3 h.length k im ip ws) :
    ∃ ws', lpK 118 Tryz.f118 46 0 h (viS h k im ip ss v xs 0 met post ws) = some (.exit 0, viS h k im ip ss v xs xs.length (xs.foldl (fun s b => if s.1.getD b.toNat false then s else visitF ss m b.toNat s) (met, post)).1 (xs.foldl (fun s b => if s.1.getD b.toNat false then s else visitF ss m b.toNat s) (met, post)).2 ws') ∧ Ks3 h.length k im ip ws' := by
  have w1 := w.hk
  have w2 := w.hm
  have w3 := w.hp
  have key := loop_rel (P := Tryz.prog) (C := cfg) (sc := runScope Tryz.prog cfg 46 h.length (cfg.live 118) 0) (N := 46) (n0 := h.length) (K := cfg.live 118) (c := loopAt Tryz.f118 0)
    (fun s : Nat × (List Bool × List Int) × List Nat => viS h k im ip ss v xs s.1 s.2.1.1 s.2.1.2 s.2.2)
    (fun s => s.1 ≤ xs.length ∧ s.2.1.1.length = ss.length ∧ unmet s.2.1.1 ≤ m ∧ unmet s.2.1.1 + s.2.1.2.length ≤ 100000 ∧ Ks3 h.length k im ip s.2.2) (fun s => xs.length - s.1)
    (fun s q => ∃ ws', q = (.exit 0, viS h k im ip ss v xs xs.length ((xs.drop s.1).foldl (fun s b => if s.1.getD b.toNat false then s else visitF ss m b.toNat s) s.2.1).1 ((xs.drop s.1).foldl (fun s b => if s.1.getD b.toNat false then s else visitF ss m b.toNat s) s.2.1).2 ws') ∧ Ks3 h.length k im ip ws') ?_ (0, (met, post), ws) ⟨Nat.zero_le _, hl, hu, hp, hk⟩
  · obtain ⟨q, h1, ws', rfl, h2⟩ := key
    exact ⟨ws', h1, h2⟩
  rintro ⟨i, ⟨met, post⟩, ws⟩ ⟨j1, j2, j3, j4, j5⟩
  simp only at j1 j2 j3 j4 j5 ⊢
  rcases Nat.lt_or_ge i xs.length with hi | hi
  · obtain ⟨b, hd⟩ : ∃ b, xs[i]? = some b := ⟨_, List.getElem?_eq_getElem hi⟩
    have hdr : xs.drop i = b :: xs.drop (i + 1) := by
      rw [List.drop_eq_getElem_cons hi]; rw [List.getElem?_eq_getElem hi] at hd; cases hd; rfl
    rw [hdr, List.foldl_cons]
    have hiI : ((i : Nat) : Int) < ((xs.length : Nat) : Int) := by omega
    have hb0 := hb b (List.mem_of_getElem? hd)
    have hb1 := hb0.1
    have hbn : b.toNat < ss.length := by omega
    have hbn2 : b.toNat < met.length := by omega
    obtain ⟨t, ht⟩ : ∃ t, met[b.toNat]? = some t := ⟨_, List.getElem?_eq_getElem hbn2⟩
    have hg : met.getD b.toNat false = t := by rw [List.getD, ht]; rfl
    cases t with
    | true =>
      refine .inl ⟨(i + 1, (met, post), wsOf h.length ws), ?_, ⟨hi, j2, j3, j4, ks3_wsOf j5⟩, by simp only; omega, ?_⟩
      · simp (disch := (first | omega | simp (disch := omega) [j2])) [round_eq, viS, Tryz.f118, lv118, hd, hi, hiI, hb1, hbn, hbn2, ht, wrap_i64, rowW_k w, rowW_m w, rowW_p w, j2, -getElem?_pos, -tidy_eq]
        refine (tidy_call' (by simp) ?_ (wsW w j5)).trans ?_ <;> simp (disch := omega) [plK_cons, plK_nil, w1]
      · simp only [hg, if_true]
        exact fun r hr => hr
    | false =>
      obtain ⟨ws', e, hk''⟩ := ih h k im ip w ss hs met post b.toNat j2 ht j3 j4
      have hk' : Ks3 h.length k im ip ws' := fun x hx _ => hk'' x hx
      have hinv := visitF_inv ss hs m b.toNat (met, post) j2 ht
      rw [show ((b.toNat : Nat) : Int) = b by omega] at e
      refine .inl ⟨(i + 1, visitF ss m b.toNat (met, post), wsOf h.length (ws ++ ws')), ?_, ⟨hi, hinv.len.trans j2, Nat.le_trans hinv.un j3, Nat.le_trans hinv.post j4, ks3_wsOf (ks3_app j5 hk')⟩, by simp only; omega, ?_⟩
      · simp (disch := (first | omega | simp (disch := omega) [j2])) [round_eq, viS, Tryz.f118, lv118, hd, hi, hiI, hb1, hbn, hbn2, ht, wrap_i64, rowW_k w, rowW_m w, rowW_p w, j2, e, -getElem?_pos, -tidy_eq]
        refine (tidy_call' (by simp) ?_ (wsW w (ks3_app j5 hk'))).trans ?_ <;> simp (disch := omega) [plK_cons, plK_nil, w1]
      · simp only [hg, Bool.false_eq_true, if_false]
        exact fun r hr => hr
  · have : i = xs.length := by omega
    subst this
    refine .inr ⟨_, ?_, ?_, wsOf h.length ws, rfl, ks3_wsOf j5⟩
    · simp (disch := (first | omega | simp (disch := omega) [j2])) [round_eq, viS, Tryz.f118, lv118, rowW_k w, rowW_m w, rowW_p w, j2, -getElem?_pos, -tidy_eq]
      refine (tidy_call' (by simp) ?_ (wsW w j5)).trans ?_ <;> simp (disch := omega) [plK_cons, plK_nil, w1]
    · nofun
end Go.Proofs.YtdkknhpdjcdmfaaGreat.Abs

/- A walk through blocks: all of it. -/
set_option linter.unusedSimpArgs false
set_option linter.unusedVariables false
namespace Go.Proofs.YtdkknhpdjcdmfaaGreat.Abs
open Go Go.RowKit Go.Proofs

theorem visitOK : ∀ m, VisitOK m
  | 0 => by
    intro h k im ip w ss hs met post v hl hv hu hp
    have := unmet_set hv
    omega
  | m + 1 => by
    intro h k im ip w ss hs met post v hl hv hu hp
    have ih := visitOK m
    have w1 := w.hk
    have w2 := w.hm
    have w3 := w.hp
    have hu2 := unmet_set hv
    have hvl : v < met.length := (List.getElem?_eq_some_iff.1 hv).1
    have hvs : v < ss.length := by omega
    obtain ⟨xs, hx⟩ : ∃ xs, ss[v]? = some xs := ⟨_, List.getElem?_eq_getElem hvs⟩
    have hxe := hs.each xs (List.mem_of_getElem? hx)
    have hk0 : Ks3 h.length k im ip [im] := fun x hx _ => by simp at hx; exact .inr (.inl hx)
    obtain ⟨ws', e, hk'⟩ := vi_loop m ih h k im ip w ss hs v xs hxe.1 hxe.2 (met.set v true) post (by simpa using hl) (by omega) (by omega) (wsOf h.length [im]) (ks3_wsOf hk0)
    have hr : visitF ss (m + 1) v (met, post) = ((xs.foldl (fun s b => if s.1.getD b.toNat false then s else visitF ss m b.toNat s) (met.set v true, post)).1, (xs.foldl (fun s b => if s.1.getD b.toNat false then s else visitF ss m b.toNat s) (met.set v true, post)).2 ++ [(v : Int)]) := by
      simp only [visitF]
      rw [show ss.getD v [] = xs by rw [List.getD, hx]; rfl]
    have hinv := visitF_inv ss hs (m + 1) v (met, post) hl hv
    rw [hr] at hinv ⊢
    generalize xs.foldl (fun s b => if s.1.getD b.toNat false then s else visitF ss m b.toNat s) (met.set v true, post) = r at e hinv ⊢
    obtain ⟨met', post'⟩ := r
    have hpl := hinv.post
    have hml := hinv.len
    simp only [List.length_append, List.length_cons, List.length_nil] at hpl hml
    simp (disch := omega) [viS, lpK, lv118, Tryz.f118] at e
    have hkf : Ks3 h.length k im ip (ws' ++ [ip, k]) := ks3_app hk' fun x hx _ => by
      simp at hx
      rcases hx with rfl | rfl
      · exact .inr (.inr rfl)
      · exact .inl rfl
    refine ⟨wsOf h.length (ws' ++ [ip, k]), CI_of Tryz.func118 rfl 0 ?_, fun x hx => hkf x (wsOf_mem hx).1 (wsOf_mem hx).2⟩
    have hkp : cfg.keep 118 = 0 := rfl
    simp (disch := (first | omega | simp (disch := omega) [hl])) [Tryz.f118, lv118, hvl, hvs, hv, hx, rowW_k w, rowW_m w, rowW_p w, setW_m w, boolsOf_set, hl, wrap_i64, -getElem?_pos, -tidy_eq, -wrapUp_zero]
    rw [tidy_call' (by simp) ?_ (wsW w hk0)]
    · simp (disch := (first | omega | simp (disch := omega) [hl])) [e, hkp, hl, rowW_k w, rowW_m w, rowW_p w, rowW_p' w, rowW_k' w, setW_p' w, setW_k' w, intsOf_snoc, room_of, wrap_i64, -getElem?_pos, -tidy_eq, -wrapUp_zero]
      exact wrap_call (by simp) (wsW w hkf)
    · simp (disch := omega) [plK_cons, plK_nil, w1]
end Go.Proofs.YtdkknhpdjcdmfaaGreat.Abs
