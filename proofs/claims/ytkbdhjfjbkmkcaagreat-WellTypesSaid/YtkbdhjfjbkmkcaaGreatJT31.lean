/- The abstract machine, step by step: what is carried round loops, and what a call hands back. -/
import Derived.Test.YtkbdhjfjbkmkcaaGreatJT30
set_option linter.unusedSimpArgs false
set_option linter.unusedVariables false
namespace Go.Proofs.YtkbdhjfjbkmkcaaGreat.Abs
open Go Go.RowKit

def plainL : Leaf → Bool
  | .ptr .. => false
  | .sl .. => false
  | .map _ => false
  | .junk => false
  | .fn .. => false
  | _ => true

def treeL : Leaf → Bool
  | .nils => false
  | .zsl => false
  | l => plainL l
def treeC (cs : List Leaf) : Bool := cs.all treeL
def treeR (es : List (List Leaf)) : Bool := es.all treeC
theorem treeC_nil : treeC [] = true := rfl
theorem treeC_cons (c : Leaf) (cs : List Leaf) : treeC (c :: cs) = (treeL c && treeC cs) := rfl
theorem treeR_nil : treeR [] = true := rfl
theorem treeR_cons (c : List Leaf) (cs : List (List Leaf)) : treeR (c :: cs) = (treeC c && treeR cs) := rfl
theorem treeR_append (a b : List (List Leaf)) : treeR (a ++ b) = (treeR a && treeR b) := by simp [treeR]
theorem treeR_map {α : Type} {f : α → List Leaf} (hf : ∀ x, treeC (f x) = true) (xs : List α) : treeR (xs.map f) = true := by
  simp only [treeR, List.all_map, List.all_eq_true]; exact fun x _ => hf x

def plainC (cs : List Leaf) : Bool := cs.all plainL
def plainR (es : List (List Leaf)) : Bool := es.all plainC

theorem plainC_nil : plainC [] = true := rfl
theorem plainC_cons (c : Leaf) (cs : List Leaf) : plainC (c :: cs) = (plainL c && plainC cs) := rfl
theorem plainR_nil : plainR [] = true := rfl
theorem plainR_cons (c : List Leaf) (cs : List (List Leaf)) : plainR (c :: cs) = (plainC c && plainR cs) := rfl
theorem plainR_append (a b : List (List Leaf)) : plainR (a ++ b) = (plainR a && plainR b) := by simp [plainR]
theorem plainR_map {α : Type} {f : α → List Leaf} (hf : ∀ x, plainC (f x) = true) (xs : List α) : plainR (xs.map f) = true := by
  simp only [plainR, List.all_map, List.all_eq_true]; exact fun x _ => hf x
theorem sized_nil (n : Nat) : sized n [] = true := rfl
theorem sized_cons (n : Nat) (c : List Leaf) (cs : List (List Leaf)) : sized n (c :: cs) = (c.length == n && sized n cs) := rfl
theorem sized_append (n : Nat) (a b : List (List Leaf)) : sized n (a ++ b) = (sized n a && sized n b) := by simp [sized]
theorem sized_map {α : Type} {n : Nat} {f : α → List Leaf} (hf : ∀ x, (f x).length = n) (xs : List α) : sized n (xs.map f) = true := by
  simp only [sized, List.all_map, List.all_eq_true]; exact fun x _ => by simp [hf x]

section
variable {h t : Heap} {n0 : Nat} {L : List (Option Nat)}

theorem fzL_plain {l : Leaf} (hl : treeL l = true) (k : Nat) : fzL h n0 L (k + 1) l = some l := by
  cases l <;> first | rfl | (simp [treeL, plainL] at hl; done)
theorem fzT_plain {l : Leaf} (hl : plainL l = true) : fzT h n0 L l = some l := by
  cases l <;> first | rfl | (simp [plainL] at hl; done)

theorem mapO_id {α : Type} {f : α → Option α} : ∀ {l : List α}, (∀ x, x ∈ l → f x = some x) → mapO f l = some l
  | [], _ => rfl
  | x :: l, h => by simp [mapO, h x List.mem_cons_self, mapO_id fun y hy => h y (List.mem_cons_of_mem _ hy)]

theorem mapO_plain {cs : List Leaf} (hp : plainC cs = true) : mapO (fzT h n0 L) cs = some cs := mapO_id fun x hx => fzT_plain (List.all_eq_true.1 hp x hx)
theorem mapO2_plain {es : List (List Leaf)} (hp : plainR es = true) : mapO (mapO (fzT h n0 L)) es = some es := mapO_id fun x hx => mapO_plain (List.all_eq_true.1 hp x hx)
theorem mapL_plain {cs : List Leaf} (hp : treeC cs = true) (k : Nat) : mapO (fzL h n0 L (k + 1)) cs = some cs := mapO_id fun x hx => fzL_plain (List.all_eq_true.1 hp x hx) k
theorem mapL2_plain {es : List (List Leaf)} (hp : treeR es = true) (k : Nat) : mapO (mapO (fzL h n0 L (k + 1))) es = some es := mapO_id fun x hx => mapL_plain (List.all_eq_true.1 hp x hx) k

def fzRows (h : Heap) (n0 : Nat) (L : List (Option Nat)) (es : List (List Leaf)) : Bool → Option (List (List Leaf))
  | true => some es
  | false => mapO (mapO (fzT h n0 L)) es
def fzRowsL (h : Heap) (n0 : Nat) (L : List (Option Nat)) (k : Nat) (es : List (List Leaf)) : Bool → Option (List (List Leaf))
  | true => some es
  | false => mapO (mapO (fzL h n0 L (k + 1))) es
def fzCells (h : Heap) (n0 : Nat) (L : List (Option Nat)) (cs : List Leaf) : Bool → Option (List Leaf)
  | true => some cs
  | false => mapO (fzT h n0 L) cs
theorem rows_eq (es : List (List Leaf)) : mapO (mapO (fzT h n0 L)) es = fzRows h n0 L es (plainR es) := by
  cases hp : plainR es with
  | true => exact mapO2_plain hp
  | false => rfl
theorem rowsL_eq (k : Nat) (es : List (List Leaf)) : mapO (mapO (fzL h n0 L (k + 1))) es = fzRowsL h n0 L k es (treeR es) := by
  cases hp : treeR es with
  | true => exact mapL2_plain hp k
  | false => rfl
theorem cells_eq (cs : List Leaf) : mapO (fzT h n0 L) cs = fzCells h n0 L cs (plainC cs) := by
  cases hp : plainC cs with
  | true => exact mapO_plain hp
  | false => rfl
theorem fzRows_true (es : List (List Leaf)) : fzRows h n0 L es true = some es := rfl
theorem fzRowsL_true (k : Nat) (es : List (List Leaf)) : fzRowsL h n0 L k es true = some es := rfl
theorem fzCells_true (cs : List Leaf) : fzCells h n0 L cs true = some cs := rfl
def appO {α : Type} : Option (List α) → Option (List α) → Option (List α)
  | some a, some b => some (a ++ b)
  | _, _ => none
def consO {α : Type} : Option α → Option (List α) → Option (List α)
  | some a, some b => some (a :: b)
  | _, _ => none
theorem appO_some {α : Type} (a b : List α) : appO (some a) (some b) = some (a ++ b) := rfl
theorem consO_some {α : Type} (a : α) (b : List α) : consO (some a) (some b) = some (a :: b) := rfl
theorem mapO_append {α β : Type} (f : α → Option β) : ∀ a b : List α, mapO f (a ++ b) = appO (mapO f a) (mapO f b)
  | [], b => by cases h : mapO f b <;> simp [mapO, appO, h]
  | x :: a, b => by
    simp only [List.cons_append, mapO, mapO_append f a b]
    cases f x with
    | none => cases mapO f b <;> rfl
    | some y => cases mapO f a with
      | none => cases mapO f b <;> rfl
      | some ys => cases mapO f b <;> rfl
theorem mapO_cons {α β : Type} (f : α → Option β) (x : α) (a : List α) : mapO f (x :: a) = consO (f x) (mapO f a) := by
  simp only [mapO]
  cases f x with
  | none => rfl
  | some y => cases mapO f a <;> rfl
theorem mapO_nil {α β : Type} (f : α → Option β) : mapO f [] = some [] := rfl
theorem fzRows_app (a : List (List Leaf)) (c : List Leaf) (ha : plainR a = true) : fzRows h n0 L (a ++ [c]) false = appO (some a) (consO (fzCells h n0 L c (plainC c)) (some [])) := by
  simp only [fzRows, mapO_append, mapO2_plain ha, mapO_cons, cells_eq, mapO_nil]
theorem fzCells_nil : fzCells h n0 L [] false = some [] := rfl
theorem fzCells_cons (c : Leaf) (cs : List Leaf) : fzCells h n0 L (c :: cs) false = consO (fzT h n0 L c) (fzCells h n0 L cs (plainC cs)) := by
  rw [← cells_eq]; simp only [fzCells, mapO_cons]

def refK (h : Heap) (n0 : Nat) (L : List (Option Nat)) (l : Leaf) (p : Option Nat) : Option Leaf := match p with
  | none => fzL h n0 L 40 l
  | some p => some (toId p l)
theorem fzT_sl (id s sz off len : Nat) : fzT h n0 L (.sl id s sz off len) = if n0 ≤ id then refK h n0 L (.sl id s sz off len) (placeOf id L n0) else some (.sl id s sz off len) := by
  show fzR h n0 L _ = _
  unfold fzR refK
  simp only [stays, decide_eq_true_eq, refId]
  by_cases hlt : id < n0
  · rw [if_pos hlt, if_neg (by omega)]
  · rw [if_neg hlt, if_pos (by omega)]; cases placeOf id L n0 <;> rfl
theorem fzT_ptr (id sz i off : Nat) : fzT h n0 L (.ptr id sz i off) = if n0 ≤ id then refK h n0 L (.ptr id sz i off) (placeOf id L n0) else some (.ptr id sz i off) := by
  show fzR h n0 L _ = _
  unfold fzR refK
  simp only [stays, decide_eq_true_eq, refId]
  by_cases hlt : id < n0
  · rw [if_pos hlt, if_neg (by omega)]
  · rw [if_neg hlt, if_pos (by omega)]; cases placeOf id L n0 <;> rfl
theorem fzT_map (id : Nat) : fzT h n0 L (.map id) = if n0 ≤ id then refK h n0 L (.map id) (placeOf id L n0) else some (.map id) := by
  show fzR h n0 L _ = _
  unfold fzR refK
  simp only [stays, decide_eq_true_eq, refId]
  by_cases hlt : id < n0
  · rw [if_pos hlt, if_neg (by omega)]
  · rw [if_neg hlt, if_pos (by omega)]; cases placeOf id L n0 <;> rfl
theorem fzT_junk : fzT h n0 L .junk = some .junk := rfl
theorem refK_some (l : Leaf) (p : Nat) : refK h n0 L l (some p) = some (toId p l) := rfl
theorem refK_none (l : Leaf) : refK h n0 L l none = fzL h n0 L 40 l := rfl
theorem toId_sl (p id s sz off len : Nat) : toId p (.sl id s sz off len) = .sl p s sz off len := rfl
theorem toId_ptr (p id sz i off : Nat) : toId p (.ptr id sz i off) = .ptr p sz i off := rfl
theorem toId_map (p id : Nat) : toId p (.map id) = .map p := rfl

def wholeK (h : Heap) (n0 : Nat) (L : List (Option Nat)) (k s : Nat) : Option (Nat × List (List Leaf)) → Option Leaf
  | some r => if r.1 = s then (fzRowsL h n0 L k r.2 (treeR r.2)).map .isl else none
  | none => none
theorem fzL_whole (k id s sz : Nat) : fzL h n0 L (k + 1 + 1) (.sl id s sz 0 sz) = if goes n0 L id = true then wholeK h n0 L k s (rowAt h id sz) else none := by
  rw [fzL]
  split
  · cases hr : rowAt h id sz with
    | none => rfl
    | some r =>
      have := (rowAt_some hr).2
      subst this
      simp only [wholeK, ← rowsL_eq, Nat.zero_add, Nat.le_refl, and_true, List.drop_zero, List.take_length]
  · rfl
def elemK (h : Heap) (n0 : Nat) (L : List (Option Nat)) (k i off : Nat) : Option (Nat × List (List Leaf)) → Option Leaf
  | some r => match r.2[i]? with
    | some cs => (mapO (fzL h n0 L k) cs).map fun cs => .iptr cs off
    | none => none
  | none => none
theorem fzL_ptr (k id sz i off : Nat) : fzL h n0 L (k + 1) (.ptr id sz i off) = if goes n0 L id = true then elemK h n0 L k i off (rowAt h id sz) else none := by
  simp only [fzL]
  split
  · cases hr : rowAt h id sz with
    | none => rfl
    | some r => simp only [elemK]; cases r.2[i]? <;> rfl
  · rfl
theorem placeAt_nil (id p : Nat) : placeAt id [] p = none := rfl
theorem placeAt_none_cons (id p : Nat) (r : List (Option Nat)) : placeAt id (none :: r) p = placeAt id r (p + 1) := rfl
theorem placeAt_some_cons (id k p : Nat) (r : List (Option Nat)) : placeAt id (some k :: r) p = if k = id then some p else placeAt id r (p + 1) := rfl
def offK (n0 : Nat) : Option Nat → Option Nat
  | some k => some (n0 + k)
  | none => none
theorem placeOf_eq (id n0 : Nat) : placeOf id L n0 = offK n0 (placeAt id L 0) := by
  unfold placeOf offK; cases placeAt id L 0 <;> rfl
theorem offK_some (k : Nat) : offK n0 (some k) = some (n0 + k) := rfl
theorem offK_none : offK n0 none = none := rfl
theorem goes_eq (id : Nat) : goes n0 L id = (decide (n0 ≤ id) && (offK n0 (placeAt id L 0)).isNone) := by
  unfold goes; rw [placeOf_eq]

theorem okL_nil : okL n0 [] = true := rfl
theorem okL_none (r : List (Option Nat)) : okL n0 (none :: r) = okL n0 r := rfl
theorem okL_cons (id : Nat) (r : List (Option Nat)) : okL n0 (some id :: r) = (decide (n0 ≤ id) && !r.contains (some id) && okL n0 r) := rfl

theorem ownId_sl (id s sz off len : Nat) : ownId n0 (.sl id s sz off len) = if n0 ≤ id then some id else none := rfl
theorem ownId_ptr (id sz i off : Nat) : ownId n0 (.ptr id sz i off) = if n0 ≤ id then some id else none := rfl
theorem ownId_map (id : Nat) : ownId n0 (.map id) = if n0 ≤ id then some id else none := rfl
theorem ownId_isl (es : List (List Leaf)) : ownId n0 (.isl es) = none := rfl
theorem ownId_nils : ownId n0 .nils = none := rfl
theorem ownId_zsl : ownId n0 .zsl = none := rfl
theorem ownId_int (k : IntKind) (n : Int) : ownId n0 (.int k n) = none := rfl
theorem ownId_bool (b : Bool) : ownId n0 (.bool b) = none := rfl
theorem ownId_str (s : List UInt8) : ownId n0 (.str s) = none := rfl
theorem ownId_iptr (cs : List Leaf) (off : Nat) : ownId n0 (.iptr cs off) = none := rfl
theorem ownId_nilp : ownId n0 .nilp = none := rfl
theorem ownId_nilm : ownId n0 .nilm = none := rfl
theorem ownId_nilf : ownId n0 .nilf = none := rfl
theorem ownId_junk : ownId n0 .junk = none := rfl
theorem rootOf_one (l : Leaf) : rootOf n0 (.one l) = ownId n0 l := rfl
theorem rootOf_agg (cs : List Leaf) : rootOf n0 (.agg cs) = none := rfl
theorem rootOf_tup (cs : List V) : rootOf n0 (.tup cs) = none := rfl
theorem rootOf_junk : rootOf n0 .junk = none := rfl

theorem kdL_nil (T : Tmps) : kdL h n0 T [] = [] := rfl
theorem kdL_cons (T : Tmps) (i : Nat) (k : Kd) (K : List (Nat × Kd)) : kdL h n0 T ((i, k) :: K) = kdIds h n0 (tget T i) k ++ kdL h n0 T K := rfl
theorem kdIds_p (v : V) : kdIds h n0 v .p = [] := rfl
theorem kdIds_x (v : V) (i : Nat) : kdIds h n0 v (.x i) = [] := rfl
theorem kdIds_it (v : V) (b : BW) : kdIds h n0 v (.it b) = [] := rfl
theorem kdIds_m (v : V) : kdIds h n0 v .m = [rootOf n0 v] := rfl
theorem kdIds_s (v : V) (s : Nat) (ks : List Nat) : kdIds h n0 v (.s s ks) = rootOf n0 v :: insideIds h n0 ks (rootOf n0 v) := rfl
theorem kdIds_b (v : V) (ks : List Nat) : kdIds h n0 v (.b ks) = rootOf n0 v :: insideIds h n0 ks (rootOf n0 v) := rfl
theorem inside_nil (r : Option Nat) : insideIds h n0 [] r = [] := rfl
theorem inside_none (ks : List Nat) : insideIds h n0 ks none = [] := by unfold insideIds; split <;> rfl
def insideK (n0 : Nat) (ks : List Nat) : Option (Option AO) → List (Option Nat)
  | some (some (.row _ es)) => es.flatMap (cellIds n0 ks)
  | _ => []
theorem inside_some (k : Nat) (ks : List Nat) (id : Nat) : insideIds h n0 (k :: ks) (some id) = insideK n0 (k :: ks) h[id]? := by
  simp only [insideIds, insideK]; rfl
theorem insideK_row (ks : List Nat) (z : Nat) (es : List (List Leaf)) : insideK n0 ks (some (some (.row z es))) = es.flatMap (cellIds n0 ks) := rfl
theorem cellIds_nil (cs : List Leaf) : cellIds n0 [] cs = [] := by cases cs <;> rfl
theorem cellIds_zero (ks : List Nat) (c : Leaf) (cs : List Leaf) : cellIds n0 (0 :: ks) (c :: cs) = cellIds n0 ks cs := rfl
theorem cellIds_succ (e : Nat) (ks : List Nat) (c : Leaf) (cs : List Leaf) : cellIds n0 ((e + 1) :: ks) (c :: cs) = ownId n0 c :: cellIds n0 ks cs := rfl

def nthO : Heap → Nat → Option (Option AO)
  | [], _ => none
  | o :: _, 0 => some o
  | _ :: l, n + 1 => nthO l n
theorem nthO_eq : ∀ (t : Heap) (j : Nat), t[j]? = nthO t j
  | [], j => rfl
  | o :: l, 0 => rfl
  | o :: l, j + 1 => by rw [List.getElem?_cons_succ]; exact nthO_eq l j
theorem heap_at0 : (h ++ t)[h.length]? = nthO t 0 := by rw [List.getElem?_append_right (Nat.le_refl _), Nat.sub_self, nthO_eq]
theorem heap_at (j : Nat) : (h ++ t)[h.length + j]? = nthO t j := by rw [List.getElem?_append_right (Nat.le_add_right _ _), Nat.add_sub_cancel_left, nthO_eq]

def bothK : Option V → Option Heap → Option (V × Heap)
  | some v, some o => some (v, o)
  | _, _ => none
theorem bothK_some (v : V) (o : Heap) : bothK (some v) (some o) = some (v, o) := rfl
theorem kdNew_p (p : Nat) (v : V) : kdNew h n0 L p v .p = bothK (fzV h n0 L v) (some []) := by
  simp only [kdNew]; cases fzV h n0 L v <;> rfl
theorem kdNew_x (p : Nat) (v : V) (i : Nat) : kdNew h n0 L p v (.x i) = some (.junk, []) := rfl
theorem kdNew_it (p : Nat) (v : V) (b : BW) : kdNew h n0 L p v (.it b) = some (.junk, []) := rfl
theorem kdNew_m (p : Nat) (v : V) : kdNew h n0 L p v .m = bothK (fzV h n0 L v) (newRoot h n0 L p [] (rootOf n0 v)) := by
  simp only [kdNew]; cases fzV h n0 L v <;> cases newRoot h n0 L p [] (rootOf n0 v) <;> rfl
theorem kdNew_b (p : Nat) (v : V) (ks : List Nat) : kdNew h n0 L p v (.b ks) = bothK (fzV h n0 L v) (newRoot h n0 L p ks (rootOf n0 v)) := by
  simp only [kdNew]; cases fzV h n0 L v <;> cases newRoot h n0 L p ks (rootOf n0 v) <;> rfl
theorem kdNew_s_nils (p e : Nat) (ks : List Nat) : kdNew h n0 L p (.one .nils) (.s e ks) = some (.one (.sl (n0 + p) e 0 0 0), [some (.row e [])]) := rfl
theorem kdNew_s_sl (p e id s sz off len : Nat) (ks : List Nat) : kdNew h n0 L p (.one (.sl id s sz off len)) (.s e ks) = bothK (fzV h n0 L (.one (.sl id s sz off len))) (newRoot h n0 L p ks (rootOf n0 (.one (.sl id s sz off len)))) := by
  simp only [kdNew]; cases fzV h n0 L (.one (.sl id s sz off len)) <;> cases newRoot h n0 L p ks (rootOf n0 (.one (.sl id s sz off len))) <;> rfl
theorem kdNew_s_isl (p e : Nat) (es : List (List Leaf)) (ks : List Nat) : kdNew h n0 L p (.one (.isl es)) (.s e ks) = some (.one (.isl es), [none]) := rfl
theorem kdNew_s_junk (p e : Nat) (ks : List Nat) : kdNew h n0 L p .junk (.s e ks) = some (.junk, [none]) := rfl
theorem kdNew_s_zsl (p e : Nat) (ks : List Nat) : kdNew h n0 L p (.one .zsl) (.s e ks) = some (.one .zsl, [none]) := rfl
theorem root_none (p : Nat) (ks : List Nat) : newRoot h n0 L p ks none = some [none] := rfl
def oneK : Option (Option AO) → Option Heap
  | some o => some [o]
  | none => none
theorem oneK_some (o : Option AO) : oneK (some o) = some [o] := rfl
theorem root_flat (p id : Nat) : newRoot h n0 L p [] (some id) = oneK (objOf h n0 L (some id)) := by
  simp only [newRoot]; cases objOf h n0 L (some id) <;> rfl
def objK (h : Heap) (n0 : Nat) (L : List (Option Nat)) : Option (Option AO) → Option (Option AO)
  | some (some (.row z es)) => (fzRows h n0 L es (plainR es)).map fun es => some (.row z es)
  | some (some (.mp ck es)) => (fzO h n0 L (.mp ck es)).map some
  | _ => none
theorem objOf_none : objOf h n0 L none = some none := rfl
theorem objOf_some (id : Nat) : objOf h n0 L (some id) = objK h n0 L h[id]? := by
  simp only [objOf]
  cases h[id]? with
  | none => rfl
  | some o => cases o with
    | none => rfl
    | some o => cases o with
      | row z es => simp only [objK, fzO, ← rows_eq]; cases mapO (mapO (fzT h n0 L)) es <;> rfl
      | mp ck es => simp only [objK]; cases fzO h n0 L (.mp ck es) <;> rfl
theorem objK_row (z : Nat) (es : List (List Leaf)) : objK h n0 L (some (some (.row z es))) = (fzRows h n0 L es (plainR es)).map fun es => some (.row z es) := rfl
def rootK (h : Heap) (n0 : Nat) (L : List (Option Nat)) (p : Nat) (ks : List Nat) : Option (Option AO) → Option Heap
  | some (some (.row z es)) => (newRows h n0 L ks (p + 1) es).map fun r => some (.row z r.1) :: r.2
  | _ => none
theorem root_deep (p k id : Nat) (ks : List Nat) : newRoot h n0 L p (k :: ks) (some id) = rootK h n0 L p (k :: ks) h[id]? := by
  simp only [newRoot]
  cases h[id]? with
  | none => rfl
  | some o => cases o with
    | none => rfl
    | some o => cases o with
      | row z es => simp only [rootK]; cases newRows h n0 L (k :: ks) (p + 1) es <;> rfl
      | mp es => rfl
theorem rootK_row (p z : Nat) (ks : List Nat) (es : List (List Leaf)) : rootK h n0 L p ks (some (some (.row z es))) = (newRows h n0 L ks (p + 1) es).map fun r => some (.row z r.1) :: r.2 := rfl
theorem newRows_nil (ks : List Nat) (p : Nat) : newRows h n0 L ks p [] = some ([], []) := rfl
def pairK : Option (List Leaf × Heap) → Option (List (List Leaf) × Heap) → Option (List (List Leaf) × Heap)
  | some r, some q => some (r.1 :: q.1, r.2 ++ q.2)
  | _, _ => none
theorem newRows_one (ks : List Nat) (p : Nat) (cs : List Leaf) : newRows h n0 L ks p [cs] = pairK (newCells h n0 L p ks cs) (some ([], [])) := by
  simp only [newRows]; cases newCells h n0 L p ks cs <;> rfl
theorem pairK_some (r : List Leaf × Heap) (q : List (List Leaf) × Heap) : pairK (some r) (some q) = some (r.1 :: q.1, r.2 ++ q.2) := rfl
def cellK : Option Leaf → Option Heap → Option (List Leaf × Heap) → Option (List Leaf × Heap)
  | some c, some o, some r => some (c :: r.1, o ++ r.2)
  | _, _, _ => none
theorem cellK_some (c : Leaf) (o : Heap) (r : List Leaf × Heap) : cellK (some c) (some o) (some r) = some (c :: r.1, o ++ r.2) := rfl
def doneK : Option (List Leaf) → Option (List Leaf × Heap)
  | some cs => some (cs, [])
  | none => none
theorem doneK_some (cs : List Leaf) : doneK (some cs) = some (cs, []) := rfl
theorem newCells_nil (p : Nat) (cs : List Leaf) : newCells h n0 L p [] cs = doneK (fzCells h n0 L cs (plainC cs)) := by
  unfold newCells; rw [← cells_eq]; cases mapO (fzT h n0 L) cs <;> rfl
theorem newCells_end (p k : Nat) (ks : List Nat) : newCells h n0 L p (k :: ks) [] = some ([], []) := rfl
theorem newCells_zero (p : Nat) (ks : List Nat) (c : Leaf) (cs : List Leaf) : newCells h n0 L p (0 :: ks) (c :: cs) = cellK (fzT h n0 L c) (some []) (newCells h n0 L p ks cs) := by
  rw [newCells]
  cases fzT h n0 L c with
  | none => rfl
  | some c' => cases hq : newCells h n0 L p ks cs <;> simp only [hq] <;> rfl
theorem newCells_nils (p e : Nat) (ks : List Nat) (cs : List Leaf) : newCells h n0 L p ((e + 1) :: ks) (.nils :: cs) = cellK (some (.sl (n0 + p) e 0 0 0)) (some [some (.row e [])]) (newCells h n0 L (p + 1) ks cs) := by
  rw [newCells]
  cases hq : newCells h n0 L (p + 1) ks cs <;> simp only [hq] <;> rfl
theorem newCells_sl (p e : Nat) (ks : List Nat) (id s sz off len : Nat) (cs : List Leaf) : newCells h n0 L p ((e + 1) :: ks) (.sl id s sz off len :: cs) = cellK (fzT h n0 L (.sl id s sz off len)) (oneK (objOf h n0 L (ownId n0 (.sl id s sz off len)))) (newCells h n0 L (p + 1) ks cs) := by
  rw [newCells]
  · cases fzT h n0 L (.sl id s sz off len) with
    | none => rfl
    | some c' => cases objOf h n0 L (ownId n0 (.sl id s sz off len)) with
      | none => rfl
      | some o => cases hq : newCells h n0 L (p + 1) ks cs <;> simp only [hq] <;> rfl
  · simp
theorem newCells_isl (p e : Nat) (ks : List Nat) (es : List (List Leaf)) (cs : List Leaf) : newCells h n0 L p ((e + 1) :: ks) (.isl es :: cs) = cellK (some (.isl es)) (some [none]) (newCells h n0 L (p + 1) ks cs) := by
  rw [newCells]
  · simp only [fzT_plain (show plainL (.isl es) = true from rfl), ownId_isl, objOf_none]
    cases hq : newCells h n0 L (p + 1) ks cs <;> simp only [hq] <;> rfl
  · simp

theorem kdAll_nil (T : Tmps) (p : Nat) : kdAll h n0 L T p [] = some ([], []) := rfl
def allK (i : Nat) : Option (V × Heap) → (Nat → Option (Tmps × Heap)) → Option (Tmps × Heap)
  | some r, f => match f r.2.length with
    | some q => some ((i, r.1) :: q.1, r.2 ++ q.2)
    | none => none
  | none, _ => none
theorem kdAll_cons (T : Tmps) (p i : Nat) (k : Kd) (K : List (Nat × Kd)) : kdAll h n0 L T p ((i, k) :: K) = allK i (kdNew h n0 L p (tget T i) k) fun n => kdAll h n0 L T (p + n) K := by
  simp only [kdAll, allK]
  cases kdNew h n0 L p (tget T i) k with
  | none => rfl
  | some r => cases hq : kdAll h n0 L T (p + r.2.length) K <;> simp only [hq]
def joinK (i : Nat) (v : V) (o : Heap) : Option (Tmps × Heap) → Option (Tmps × Heap)
  | some q => some ((i, v) :: q.1, o ++ q.2)
  | none => none
theorem allK_some (i : Nat) (v : V) (o : Heap) (f : Nat → Option (Tmps × Heap)) : allK i (some (v, o)) f = joinK i v o (f o.length) := by
  simp only [allK, joinK]
theorem joinK_some (i : Nat) (v : V) (o : Heap) (q : Tmps × Heap) : joinK i v o (some q) = some ((i, v) :: q.1, o ++ q.2) := rfl

theorem fzV_one (l : Leaf) : fzV h n0 L (.one l) = (fzT h n0 L l).map .one := rfl
theorem fzV_agg (cs : List Leaf) : fzV h n0 L (.agg cs) = (fzCells h n0 L cs (plainC cs)).map .agg := by
  rw [← cells_eq]; rfl
theorem fzV_tup (vs : List V) : fzV h n0 L (.tup vs) = (mapO (fzV0 h n0 L) vs).map .tup := rfl
theorem fzV_junk : fzV h n0 L .junk = some .junk := rfl
theorem fzV0_one (l : Leaf) : fzV0 h n0 L (.one l) = (fzT h n0 L l).map .one := rfl
theorem fzV0_agg (cs : List Leaf) : fzV0 h n0 L (.agg cs) = (fzCells h n0 L cs (plainC cs)).map .agg := by
  rw [← cells_eq]; rfl

theorem wsOf_nil : wsOf n0 [] = [] := rfl
theorem wsOf_cons (i : Nat) (ws : List Nat) (hi : n0 ≤ i) : wsOf n0 (i :: ws) = wsOf n0 ws := by
  unfold wsOf
  rw [List.filter_cons_of_neg (by simp; omega)]
theorem fzH_nil (acc : Heap) : fzH h n0 L [] acc = some acc := rfl

def tidyK (s0 : St) (n0 : Nat) (K : List (Nat × Kd)) (L : List (Option Nat)) : Bool → Option (Tmps × Heap) → Option Heap → List Nat → St
  | true, some q, some h', ws => ⟨q.1, h' ++ q.2, ws⟩
  | _, _, _, _ => { s0 with tmps := clearM (K.map (·.1)) s0.tmps }
theorem tidy_eq (K : List (Nat × Kd)) (T : Tmps) (H : Heap) (ws : List Nat) : tidy n0 K ⟨T, H, ws⟩ = (fun L => tidyK ⟨T, H, ws⟩ n0 K L (okL n0 L) (kdAll H n0 L T 0 K) (fzH H n0 L (wsOf n0 ws) (H.take n0)) (wsOf n0 ws)) (kdL H n0 T K) := by
  simp only [tidy, tidyO]
  cases okL n0 (kdL H n0 T K) with
  | false => rfl
  | true =>
    simp only [if_true]
    cases kdAll H n0 (kdL H n0 T K) T 0 K with
    | none => rfl
    | some q => simp only []; cases fzH H n0 (kdL H n0 T K) (wsOf n0 ws) (H.take n0) <;> rfl
theorem tidyK_some (s0 : St) (K : List (Nat × Kd)) (q : Tmps × Heap) (h' : Heap) (ws : List Nat) : tidyK s0 n0 K L true (some q) (some h') ws = ⟨q.1, h' ++ q.2, ws⟩ := rfl

def wrapK (v0 : V) (h0 : Heap) (n0 : Nat) (L : List (Option Nat)) : Bool → Option V → Option Heap → Option Heap → List Nat → V × Heap × List Nat
  | true, some v, some h', some t, ws => (normV v, h' ++ t, ws)
  | _, _, _, _, ws => (v0, h0, ws)
theorem wrapC_eq (v : V) (H : Heap) (ws : List Nat) : wrapC n0 L v H ws = wrapK v H n0 L (okL n0 L) (fzV H n0 L v) (fzH H n0 L ws (H.take n0)) (mapO (objOf H n0 L) L) ws := by
  simp only [wrapC, wrapL]
  cases okL n0 L with
  | false => rfl
  | true =>
    simp only [if_true]
    cases fzV H n0 L v with
    | none => rfl
    | some v' =>
      simp only []
      cases fzH H n0 L ws (H.take n0) with
      | none => rfl
      | some h' => simp only []; cases mapO (objOf H n0 L) L <;> rfl
theorem wrapK_some (v0 v : V) (h0 h' t : Heap) (ws : List Nat) : wrapK v0 h0 n0 L true (some v) (some h') (some t) ws = (normV v, h' ++ t, ws) := rfl
theorem wrapUp_zero (v : V) (H : Heap) (ws : List Nat) : wrapUp 0 n0 v H ws = wrapC n0 [] v H (wsOf n0 ws) := rfl
theorem wrapUp_one (v : V) (H : Heap) (ws : List Nat) : wrapUp 1 n0 v H ws = wrapC n0 (rootsV n0 v) v H (wsOf n0 ws) := rfl
end
end Go.Proofs.YtkbdhjfjbkmkcaaGreat.Abs
