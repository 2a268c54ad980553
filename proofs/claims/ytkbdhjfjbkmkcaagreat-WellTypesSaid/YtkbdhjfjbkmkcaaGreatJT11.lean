/- The abstract machine: freezing what a call made, regions that draw their order, code, calls. Definitions alone. -/
import Derived.Test.YtkbdhjfjbkmkcaaGreatJT0
import Derived.Orders
namespace Go.Proofs.YtkbdhjfjbkmkcaaGreat.Abs
open Go Go.RowKit

def mapO {α β : Type} (f : α → Option β) : List α → Option (List β)
  | [] => some []
  | x :: xs => match f x with
    | none => none
    | some y => match mapO f xs with
      | none => none
      | some ys => some (y :: ys)

def placeAt (id : Nat) : List (Option Nat) → Nat → Option Nat
  | [], _ => none
  | o :: r, p => match o with
    | none => placeAt id r (p + 1)
    | some k => if k = id then some p else placeAt id r (p + 1)

def placeOf (id : Nat) (L : List (Option Nat)) (n0 : Nat) : Option Nat := match placeAt id L 0 with
  | none => none
  | some k => some (n0 + k)

def goes (n0 : Nat) (L : List (Option Nat)) (id : Nat) : Bool := decide (n0 ≤ id) && (placeOf id L n0).isNone

def aggM : List (Leaf × V × Nat) → Bool
  | (_, .agg _, _) :: _ => true
  | _ => false
def fzCellsM (f : Leaf → Option Leaf) (g : Bool) : V → Option (List Leaf)
  | .one l => if g then none else (f l).map fun l => [l]
  | .agg cs => if g then mapO f cs else none
  | _ => none
def fzMapM (f : Leaf → Option Leaf) (es : List (Leaf × V × Nat)) : Option Leaf := match mapO (fun e => f e.1) es with
  | none => none
  | some ks => match mapO (fun e => fzCellsM f (aggM es) e.2.1) es with
    | none => none
    | some rows => some (.imap ks (aggM es) rows)

def fzL (h : Heap) (n0 : Nat) (L : List (Option Nat)) : Nat → Leaf → Option Leaf
  | 0, _ => none
  | k + 1, l => match l with
    | .sl id esz sz off len =>
      if goes n0 L id then
        match rowAt h id sz with
        | none => none
        | some r => if r.1 = esz ∧ off + len ≤ sz then (mapO (mapO (fzL h n0 L k)) ((r.2.drop off).take len)).map .isl else none
      else none
    | .ptr id sz i off =>
      if goes n0 L id then
        match rowAt h id sz with
        | none => none
        | some r => match r.2[i]? with
          | none => none
          | some cs => (mapO (fzL h n0 L k) cs).map fun cs => .iptr cs off
      else none
    | .map id =>
      if goes n0 L id then
        match h[id]? with
        | some (some (.mp _ es)) => fzMapM (fzL h n0 L k) es
        | _ => none
      else none
    | .junk => none
    | .nils => some (.isl [])
    | .zsl => some (.isl [])
    | .fn f caps => (mapO (fzL h n0 L k) caps).map (.fn f)
    | l => some l

def stays (n0 : Nat) : Leaf → Bool
  | .ptr id _ _ _ => decide (id < n0)
  | .sl id _ _ _ _ => decide (id < n0)
  | .map id => decide (id < n0)
  | .junk => true
  | .nils => true
  | .zsl => true
  | _ => false

def refId : Leaf → Option Nat
  | .ptr id _ _ _ => some id
  | .sl id _ _ _ _ => some id
  | .map id => some id
  | _ => none

def toId (p : Nat) : Leaf → Leaf
  | .ptr _ sz i off => .ptr p sz i off
  | .sl _ e sz off len => .sl p e sz off len
  | .map _ => .map p
  | l => l

def fzR (h : Heap) (n0 : Nat) (L : List (Option Nat)) (l : Leaf) : Option Leaf :=
  if stays n0 l then some l else match refId l with
    | none => fzL h n0 L 40 l
    | some id => match placeOf id L n0 with
      | none => fzL h n0 L 40 l
      | some p => some (toId p l)

def fzT (h : Heap) (n0 : Nat) (L : List (Option Nat)) : Leaf → Option Leaf
  | .fn f caps => (mapO (fzR h n0 L) caps).map (.fn f)
  | l => fzR h n0 L l

def fzV0 (h : Heap) (n0 : Nat) (L : List (Option Nat)) : V → Option V
  | .junk => some .junk
  | .one l => (fzT h n0 L l).map .one
  | .agg cs => (mapO (fzT h n0 L) cs).map .agg
  | .tup _ => none

def fzV (h : Heap) (n0 : Nat) (L : List (Option Nat)) : V → Option V
  | .tup vs => (mapO (fzV0 h n0 L) vs).map .tup
  | v => fzV0 h n0 L v

def fzE (h : Heap) (n0 : Nat) (L : List (Option Nat)) (e : Leaf × V × Nat) : Option (Leaf × V × Nat) :=
  match fzT h n0 L e.1 with
  | none => none
  | some k => match fzV0 h n0 L e.2.1 with
    | none => none
    | some v => some (k, v, e.2.2)

def fzO (h : Heap) (n0 : Nat) (L : List (Option Nat)) : AO → Option AO
  | .row esz es => (mapO (mapO (fzT h n0 L)) es).map (.row esz)
  | .mp ck es => (mapO (fzE h n0 L) es).map (.mp ck)

def fzH (h : Heap) (n0 : Nat) (L : List (Option Nat)) : List Nat → Heap → Option Heap
  | [], acc => some acc
  | id :: ids, acc => match h[id]? with
    | some (some o) => match fzO h n0 L o with
      | none => none
      | some o' => fzH h n0 L ids (acc.set id (some o'))
    | _ => none

def objOf (h : Heap) (n0 : Nat) (L : List (Option Nat)) : Option Nat → Option (Option AO)
  | none => some none
  | some id => match h[id]? with
    | some (some o) => match fzO h n0 L o with
      | some o' => some (some o')
      | none => none
    | _ => none

def okL (n0 : Nat) : List (Option Nat) → Bool
  | [] => true
  | none :: r => okL n0 r
  | some id :: r => decide (n0 ≤ id) && !r.contains (some id) && okL n0 r

def ownId (n0 : Nat) (l : Leaf) : Option Nat := match refId l with
  | some id => if n0 ≤ id then some id else none
  | none => none

def ownV (n0 : Nat) : V → List (Option Nat)
  | .one l => match ownId n0 l with
    | some id => [some id]
    | none => []
  | .agg cs => cs.filterMap fun c => (ownId n0 c).map some
  | _ => []

def rootsV (n0 : Nat) : V → List (Option Nat)
  | .tup vs => (vs.flatMap (ownV n0)).eraseDups
  | v => (ownV n0 v).eraseDups

def wsOf (n0 : Nat) (ws : List Nat) : List Nat := (ws.filter fun i => decide (i < n0)).eraseDups

def normL : Leaf → Leaf
  | .nils => .isl []
  | .zsl => .isl []
  | l => l
def normV0 : V → V
  | .one l => .one (normL l)
  | .agg cs => .agg (cs.map normL)
  | v => v
def normV : V → V
  | .tup vs => .tup (vs.map normV0)
  | v => normV0 v

def wrapL (n0 : Nat) (L : List (Option Nat)) (v : V) (h : Heap) (ws : List Nat) : Option (V × Heap) :=
  if okL n0 L then
    match fzV h n0 L v with
    | none => none
    | some v' => match fzH h n0 L ws (h.take n0) with
      | none => none
      | some h' => match mapO (objOf h n0 L) L with
        | none => none
        | some t => some (normV v', h' ++ t)
  else none

def wrapC (n0 : Nat) (L : List (Option Nat)) (v : V) (h : Heap) (ws : List Nat) : V × Heap × List Nat :=
  match wrapL n0 L v h ws with
  | none => (v, h, ws)
  | some r => (r.1, r.2, ws)

def wrapUp (mode : Nat) (n0 : Nat) (v : V) (h : Heap) (ws : List Nat) : V × Heap × List Nat :=
  match mode with
  | 0 => wrapC n0 [] v h (wsOf n0 ws)
  | 1 => wrapC n0 (rootsV n0 v) v h (wsOf n0 ws)
  | _ => (v, h, wsOf n0 ws)

/-! What is carried round a loop: of each temporary, of which kind it is. 'p': as it is, or told as a tree; 's': a slice of elements of so many cells that is a call's own; 'b': a pointer to what is a call's own; 'm': a map. Of 's' and 'b': which cells (of each element) are slices that are its own, too (0: none; e + 1: of elements of e cells). -/

structure BW where
  gf : Nat
  S : Nat
  T : Nat
  F : Nat
  I : Nat
  B : Nat

inductive Kd where
  | p
  | s (esz : Nat) (ks : List Nat)
  | b (ks : List Nat)
  | m
  | b2 (kss : List (Nat × List Nat))
  | r (id : Nat)
  | x (id : Nat)
  | it (b : BW)

def rootOf (n0 : Nat) : V → Option Nat
  | .one l => ownId n0 l
  | _ => none

def cellIds (n0 : Nat) : List Nat → List Leaf → List (Option Nat)
  | [], _ => []
  | _ :: _, [] => []
  | k :: ks, c :: cs => match k with
    | 0 => cellIds n0 ks cs
    | _ + 1 => ownId n0 c :: cellIds n0 ks cs

def insideIds (h : Heap) (n0 : Nat) (ks : List Nat) (r : Option Nat) : List (Option Nat) :=
  match ks with
  | [] => []
  | _ :: _ => match r with
    | none => []
    | some id => match h[id]? with
      | some (some (.row _ es)) => es.flatMap (cellIds n0 ks)
      | _ => []

/-! The same, of slices whose elements hold slices that are its own, in turn. -/
def cellIds2 (h : Heap) (n0 : Nat) : List (Nat × List Nat) → List Leaf → List (Option Nat)
  | [], _ => []
  | _ :: _, [] => []
  | k :: ks, c :: cs => match k.1 with
    | 0 => cellIds2 h n0 ks cs
    | _ + 1 => (ownId n0 c :: insideIds h n0 k.2 (ownId n0 c)) ++ cellIds2 h n0 ks cs

def insideIds2 (h : Heap) (n0 : Nat) (kss : List (Nat × List Nat)) (r : Option Nat) : List (Option Nat) :=
  match r with
  | none => []
  | some id => match h[id]? with
    | some (some (.row _ es)) => es.flatMap (cellIds2 h n0 kss)
    | _ => []

def kdIds (h : Heap) (n0 : Nat) (v : V) : Kd → List (Option Nat)
  | .p => []
  | .m => [rootOf n0 v]
  | .s _ ks => rootOf n0 v :: insideIds h n0 ks (rootOf n0 v)
  | .b ks => rootOf n0 v :: insideIds h n0 ks (rootOf n0 v)
  | .b2 kss => rootOf n0 v :: insideIds2 h n0 kss (rootOf n0 v)
  | .r _ => []
  | .x _ => []
  | .it _ => []

def kdL (h : Heap) (n0 : Nat) (t : Tmps) : List (Nat × Kd) → List (Option Nat)
  | [] => []
  | e :: K => kdIds h n0 (tget t e.1) e.2 ++ kdL h n0 t K

def newCells (h : Heap) (n0 : Nat) (L : List (Option Nat)) : Nat → List Nat → List Leaf → Option (List Leaf × Heap)
  | _, [], cs => match mapO (fzT h n0 L) cs with
    | none => none
    | some cs' => some (cs', [])
  | _, _ :: _, [] => some ([], [])
  | p, k :: ks, c :: cs => match k with
    | 0 => match fzT h n0 L c with
      | none => none
      | some c' => match newCells h n0 L p ks cs with
        | none => none
        | some r => some (c' :: r.1, r.2)
    | e + 1 => match c with
      | .nils => match newCells h n0 L (p + 1) ks cs with
        | none => none
        | some r => some (.sl (n0 + p) e 0 0 0 :: r.1, some (.row e []) :: r.2)
      | c => match fzT h n0 L c with
        | none => none
        | some c' => match objOf h n0 L (ownId n0 c) with
          | none => none
          | some o => match newCells h n0 L (p + 1) ks cs with
            | none => none
            | some r => some (c' :: r.1, o :: r.2)

def newRows (h : Heap) (n0 : Nat) (L : List (Option Nat)) (ks : List Nat) : Nat → List (List Leaf) → Option (List (List Leaf) × Heap)
  | _, [] => some ([], [])
  | p, cs :: es => match newCells h n0 L p ks cs with
    | none => none
    | some r => match newRows h n0 L ks (p + r.2.length) es with
      | none => none
      | some q => some (r.1 :: q.1, r.2 ++ q.2)

def newRoot (h : Heap) (n0 : Nat) (L : List (Option Nat)) (p : Nat) (ks : List Nat) : Option Nat → Option Heap
  | none => some [none]
  | some id => match ks with
    | [] => match objOf h n0 L (some id) with
      | none => none
      | some o => some [o]
    | _ :: _ => match h[id]? with
      | some (some (.row z es)) => match newRows h n0 L ks (p + 1) es with
        | none => none
        | some r => some (some (.row z r.1) :: r.2)
      | _ => none

def newCells2 (h : Heap) (n0 : Nat) (L : List (Option Nat)) : Nat → List (Nat × List Nat) → List Leaf → Option (List Leaf × Heap)
  | _, [], cs => match mapO (fzT h n0 L) cs with
    | none => none
    | some cs' => some (cs', [])
  | _, _ :: _, [] => some ([], [])
  | p, k :: ks, c :: cs => match k.1 with
    | 0 => match fzT h n0 L c with
      | none => none
      | some c' => match newCells2 h n0 L p ks cs with
        | none => none
        | some r => some (c' :: r.1, r.2)
    | e + 1 => match c with
      | .nils => match newCells2 h n0 L (p + 1) ks cs with
        | none => none
        | some r => some (.sl (n0 + p) e 0 0 0 :: r.1, some (.row e []) :: r.2)
      | c => match fzT h n0 L c with
        | none => none
        | some c' => match newRoot h n0 L p k.2 (ownId n0 c) with
          | none => none
          | some o => match newCells2 h n0 L (p + o.length) ks cs with
            | none => none
            | some r => some (c' :: r.1, o ++ r.2)

def newRows2 (h : Heap) (n0 : Nat) (L : List (Option Nat)) (kss : List (Nat × List Nat)) : Nat → List (List Leaf) → Option (List (List Leaf) × Heap)
  | _, [] => some ([], [])
  | p, cs :: es => match newCells2 h n0 L p kss cs with
    | none => none
    | some r => match newRows2 h n0 L kss (p + r.2.length) es with
      | none => none
      | some q => some (r.1 :: q.1, r.2 ++ q.2)

def newRoot2 (h : Heap) (n0 : Nat) (L : List (Option Nat)) (p : Nat) (kss : List (Nat × List Nat)) : Option Nat → Option Heap
  | none => some [none]
  | some id => match h[id]? with
    | some (some (.row z es)) => match newRows2 h n0 L kss (p + 1) es with
      | none => none
      | some r => some (some (.row z r.1) :: r.2)
    | _ => none

def kdNew (h : Heap) (n0 : Nat) (L : List (Option Nat)) (p : Nat) (v : V) : Kd → Option (V × Heap)
  | .p => match fzV h n0 L v with
    | none => none
    | some v' => some (v', [])
  | .r _ => match fzV h n0 L v with
    | none => none
    | some v' => some (v', [])
  | .x _ => some (.junk, [])
  | .it _ => some (.junk, [])
  | .m => match fzV h n0 L v, newRoot h n0 L p [] (rootOf n0 v) with
    | some v', some o => some (v', o)
    | _, _ => none
  | .s e ks => match v with
    | .one .nils => some (.one (.sl (n0 + p) e 0 0 0), [some (.row e [])])
    | v => match fzV h n0 L v, newRoot h n0 L p ks (rootOf n0 v) with
      | some v', some o => some (v', o)
      | _, _ => none
  | .b ks => match fzV h n0 L v, newRoot h n0 L p ks (rootOf n0 v) with
    | some v', some o => some (v', o)
    | _, _ => none
  | .b2 kss => match fzV h n0 L v, newRoot2 h n0 L p kss (rootOf n0 v) with
    | some v', some o => some (v', o)
    | _, _ => none

def kdAll (h : Heap) (n0 : Nat) (L : List (Option Nat)) (t : Tmps) : Nat → List (Nat × Kd) → Option (Tmps × Heap)
  | _, [] => some ([], [])
  | p, e :: K => match kdNew h n0 L p (tget t e.1) e.2 with
    | none => none
    | some r => match kdAll h n0 L t (p + r.2.length) K with
      | none => none
      | some q => some ((e.1, r.1) :: q.1, r.2 ++ q.2)

def tidyO (n0 : Nat) (K : List (Nat × Kd)) (s : St) : Option St :=
  let L := kdL s.heap n0 s.tmps K
  if okL n0 L then
    match kdAll s.heap n0 L s.tmps 0 K with
    | none => none
    | some q => match fzH s.heap n0 L (wsOf n0 s.ws) (s.heap.take n0) with
      | none => none
      | some h' => some ⟨q.1, h' ++ q.2, wsOf n0 s.ws⟩
  else none

def tidy (n0 : Nat) (K : List (Nat × Kd)) (s : St) : St :=
  match tidyO n0 K s with
  | some s' => s'
  | none => { s with tmps := clearM (K.map (·.1)) s.tmps }

def tidyR (n0 : Nat) (K : List (Nat × Kd)) : Option (AX × St) → Option (AX × St)
  | none => none
  | some (x, s) => some (x, tidy n0 K s)

def hasR (id : Nat) : List (Nat × Kd) → Bool
  | [] => false
  | e :: K => (match e.2 with
    | .r i => i == id
    | .x i => i == id
    | _ => false) || hasR id K
def killT (id : Nat) : List (Nat × Kd) → Tmps → Tmps
  | [], T => T
  | e :: K, T => match e.2 with
    | .x i => if i == id then (e.1 - 1000, .junk) :: killT id K T else killT id K T
    | _ => killT id K T
def atR (n0 : Nat) (K : List (Nat × Kd)) (id : Nat) (s : St) : St := if hasR id K then tidy n0 K ⟨killT id K s.tmps, s.heap, s.ws⟩ else s

/-! Regions that draw their order. -/

inductive OK where
  | pure | alloc | store | heap | call | bad
  deriving DecidableEq

def okOf (o : Oper) : OK :=
  match o.op with
  | .move _ | .assign _ | .pick .. | .build .. | .nilCheck _ | .binOp .. | .unOp .. | .makeFunc .. | .slice .. | .fieldAddr .. | .field .. | .indexAddr .. | .index .. | .extract .. => .pure
  | .alloc _ | .box .. | .buildSlice .. | .makeSlice .. | .makeMap .. => .alloc
  | .store .. => .store
  | .load .. | .convert .. | .lookup .. | .mapUpdate .. | .mapEntry .. | .entryStore .. => .heap
  | .call { callee := .builtin _, .. } => .heap
  | .call { callee := .value _, .. } => .call
  | _ => .bad

def befores : List Oper → List Nat → List Nat
  | [], acc => acc
  | o :: r, acc => befores r (acc ++ [o.after.toList.foldl (fun s e => if Region.binds .any e then s ||| 2 ^ e.on ||| acc.getD e.on 0 else s) 0])

def refsL : Leaf → List Nat
  | .ptr id _ _ _ => [id]
  | .sl id _ _ _ _ => [id]
  | .map id => [id]
  | _ => []

def refsV : V → List Nat
  | .one l => refsL l
  | .agg cs => cs.flatMap refsL
  | _ => []

def opTmps (o : Oper) : List Nat := o.op.operands.toList.filterMap fun x => match x with | .tmp t => some t | _ => none

def guardTmp (ops : Array Oper) (o : Oper) : List Nat :=
  match o.guard with
  | some (g, _) => ((ops[g]?).bind (·.dst)).toList
  | none => []

structure Rec where
  before : Nat
  call : Bool
  reads : List Nat
  holes : List Nat
  touched : List Nat
  cell : Option (Nat × Nat × Nat × Nat)

def disjoint (a b : List Nat) : Bool := a.all fun x => !b.contains x

def cellsApart (a b : Option (Nat × Nat × Nat × Nat)) : Bool :=
  match a, b with
  | some (i, e, o, n), some (j, f, p, m) => i != j || e != f || o + n ≤ p || p + m ≤ o
  | _, _ => false

def apartR (a b : Rec) : Bool :=
  (disjoint a.touched b.touched || cellsApart a.cell b.cell) &&
  (if a.call then b.touched.all fun x => a.holes.contains x else disjoint a.reads b.touched) &&
  (if b.call then a.touched.all fun x => b.holes.contains x else disjoint b.reads a.touched)

def blank (ids : List Nat) (i : Nat) : Heap → Heap
  | [] => []
  | o :: h => (if ids.contains i then none else o) :: blank ids (i + 1) h

def putBack (ids : List Nat) (h' : Heap) (i : Nat) : Heap → Heap
  | [] => []
  | o :: h => (if ids.contains i then h'.getD i none else o) :: putBack ids h' (i + 1) h

def needsSlot (o : Oper) : Bool :=
  match o.op with
  | .alloc _ | .box .. | .buildSlice .. | .makeSlice .. | .makeMap .. => true
  | .call { callee := .builtin .append, .. } => true
  | _ => false

def slotsOf : List Oper → Nat → List Nat
  | [], _ => []
  | o :: r, n => n :: slotsOf r (if needsSlot o then n + 1 else n)

def slotCount : List Oper → Nat
  | [] => 0
  | o :: r => (if needsSlot o then 1 else 0) + slotCount r

def drawOp (P : Program) (cf : CF) (slot : Nat) (tmps : Tmps) (h : Heap) (before : Nat) (holes : List Nat) (o : Oper) : Option (V × Heap × List Nat × Rec) :=
  match okOf o with
  | .pure => match absOp P cf none tmps [] o with
    | some (v, [], _) => some (v, h, [], ⟨before, false, [], [], [], none⟩)
    | _ => none
  | .alloc => match absOp P cf (some slot) tmps h o with
    | some (v, h', ws) => some (v, h', ws, ⟨before, false, [], [], [slot], none⟩)
    | none => none
  | .store => match o.op with
    | .store _ a x => match ev tmps a with
      | .one (.ptr id _ e off) => match absOp P cf none tmps h o with
        | some (v, h', ws) => some (v, h', ws, ⟨before, false, [], [], [id], some (id, e, off, (ev tmps x).cells.length)⟩)
        | none => none
      | _ => none
    | _ => none
  | .heap => match absOp P cf (some slot) tmps h o with
    | some (v, h', ws) => some (v, h', ws, ⟨before, false, (o.op.operands.toList.map (ev tmps)).flatMap refsV, [], if needsSlot o then slot :: ws else ws, none⟩)
    | none => none
  | .call => match absOp P cf none tmps (blank holes 0 h) o with
    | some (v, h', ws) => if h'.length = h.length then some (v, putBack ws h' 0 h, ws, ⟨before, true, [], holes, ws, none⟩) else none
    | none => none
  | .bad => none

def holesFor (before : Nat) (recs : List Rec) (i : Nat) (slots : List Nat) (ops : List Oper) : List Nat :=
  (recs.zipIdx.flatMap fun p => if before.testBit p.2 then [] else p.1.touched) ++
  ((slots.zip ops).zipIdx.filterMap fun p => if needsSlot p.1.2 && !before.testBit p.2 && decide (i < p.2) then some p.1.1 else none)

def takesOK (bs : List Nat) (b i : Nat) (ts : List Nat) : List Oper → Nat → Bool
  | [], _ => true
  | o :: r, j => (match o.dst with
    | none => true
    | some d => !ts.contains d || j == i || b.testBit j || (bs.getD j 0).testBit i) && takesOK bs b i ts r (j + 1)

def drawGo (P : Program) (cf : CF) (N : Nat) (ops : Array Oper) (slots : List Nat) (bs : List Nat) : List Oper → Nat → List Rec → St → Option (List Rec × St)
  | [], _, recs, s => some (recs, s)
  | o :: rest, i, recs, s =>
    let b := bs.getD i 0
    -- what it takes was made ahead of it, or stays
    if takesOK bs b i (opTmps o ++ guardTmp ops o) ops.toList 0 then
      match wantedA ops s.tmps o with
      | none => none
      | some false => drawGo P cf N ops slots bs rest (i + 1) (recs ++ [⟨b, false, [], [], [], none⟩]) { s with tmps := setD N s.tmps o.dst (.tup []) }
      | some true => match drawOp P cf (slots.getD i 0) s.tmps s.heap b (holesFor b recs i slots ops.toList) o with
        | none => none
        | some (v, h, ws, r) => drawGo P cf N ops slots bs rest (i + 1) (recs ++ [r]) { tmps := setD N s.tmps o.dst v, heap := h, ws := s.ws ++ ws }
    else none

def pairsOK : List Rec → Nat → List Rec → Bool
  | _, _, [] => true
  | all, i, r :: rest => (all.zipIdx.all fun p => p.2 == i || r.before.testBit p.2 || p.1.before.testBit i || apartR r p.1) && pairsOK all (i + 1) rest

def nodupB : List Nat → Bool
  | [] => true
  | x :: xs => !xs.contains x && nodupB xs

def edgesOK : List Oper → Nat → Bool
  | [], _ => true
  | o :: r, i => (o.after.all fun e => !Region.binds .any e || decide (e.on < i)) && edgesOK r (i + 1)

def absDraw (P : Program) (cf : CF) (N : Nat) (ops : Array Oper) (s : St) : Option St :=
  let l := ops.toList
  let dsts := l.filterMap (·.dst)
  if nodupB dsts && edgesOK l 0 && (dsts.all fun d => decide (d < N)) then
    let bs := befores l []
    let slots := slotsOf l s.heap.length
    match drawGo P cf N ops slots bs l 0 [] { s with heap := s.heap ++ List.replicate (slotCount l) none } with
    | none => none
    | some (recs, s') => if pairsOK recs 0 recs then some s' else none
  else none

/-! Loops over what slices.Backward makes. -/

def itOf (g : Nat) : List (Nat × Kd) → Option BW
  | [] => none
  | e :: K => match e.2 with
    | .it b => if b.gf = g then some b else itOf g K
    | _ => itOf g K

def bwdUp (P : Program) (T : TypeId) (agg : Bool) : Nat → List (List Leaf) → Option (List (List V))
  | _, [] => some []
  | i, cs :: es => if tsize P T = some cs.length then
      match mkV agg cs with
      | some v => match bwdUp P T agg (i + 1) es with
        | some r => some ([.one (.int .i64 i), v] :: r)
        | none => none
      | none => none
    else none

def itRows (P : Program) (b : BW) (es : List (List Leaf)) : Option (List (List V)) :=
  if es.length < 4611686018427387904 then
    match tagg P b.T with
    | some g => match bwdUp P b.T g 0 es with
      | some r => some r.reverse
      | none => none
    | none => none
  else none

def flatC (K : List (Nat × Kd)) : Code → Bool
  | .region id _ _ => !hasR id K
  | .seq a b => flatC K a && flatC K b
  | .cond _ a b => flatC K a && flatC K b
  | .block _ c => flatC K c
  | .loop _ => false
  | .scope _ => false
  | .rangeFunc .. => false
  | _ => true

def setAll (N : Nat) : List Nat → List V → Tmps → Tmps
  | p :: ps, v :: vs, t => setAll N ps vs (setD N t (some p) v)
  | _, _, t => t

def roundR (N n0 : Nat) (K : List (Nat × Kd)) (ps : List Nat) (fa fb : St → Option (AX × St)) (x : List V) (s : St) : Option (AX × St) :=
  match fa ⟨setAll N ps x s.tmps, s.heap, s.ws⟩ with
  | some (.normal, s1) => match fb s1 with
    | some (.normal, s2) => some (.normal, tidy n0 K ⟨s.tmps, s2.heap, s2.ws⟩)
    | some (y, s2) => some (y, ⟨s.tmps, s2.heap, s2.ws⟩)
    | none => none
  | _ => none

def rangeGo (f : List V → St → Option (AX × St)) : List (List V) → St → Option (AX × St)
  | [], s => some (.normal, s)
  | x :: xs, s => match f x s with
    | some (.normal, s') => rangeGo f xs s'
    | r => r

def rangeOf (P : Program) (K : List (Nat × Kd)) (ok : Bool) (v : V) : Option (List (List V)) :=
  match ok, v with
  | true, .one (.fn gf [.iptr [.isl es] 0]) => match itOf gf K with
    | some b => itRows P b es
    | none => none
  | _, _ => none

/-! Code, and calls. -/

def absCode (P : Program) (cf : CF) (sc : Code → Code → St → Option (AX × St)) (n N n0 : Nat) (K : List (Nat × Kd)) : Code → St → Option (AX × St)
  | .skip, s => some (.normal, s)
  | .region id ops false, s => (absOps P cf N ops ops.toList s).map fun s => (.normal, atR n0 K id s)
  | .region id ops true, s => (absDraw P cf N ops s).map fun s => (.normal, atR n0 K id s)
  | .seq a b, s => match absCode P cf sc n N n0 K a s with
    | some (.normal, s') => absCode P cf sc n N n0 K b s'
    | r => r
  | .cond c a b, s => match ev s.tmps c with
    | .one (.bool true) => absCode P cf sc n N n0 K a s
    | .one (.bool false) => absCode P cf sc n N n0 K b s
    | _ => none
  | .block id c, s => match absCode P cf sc n N n0 K c s with
    | some (.exit i, s') => if i = id then some (.normal, s') else some (.exit i, s')
    | r => r
  | .loop c, s => iter (fun s => tidyR n0 K (absCode P cf sc n N n0 K c s)) n (tidy n0 K s)
  | .exit id, s => some (.exit id, s)
  | .scope c, s => match absCode P cf sc n N n0 K c s with
    | some (.goto l, s') => match findLabel c l with
      | some rest => sc c rest s'
      | none => some (.goto l, s')
    | r => r
  | .label _, s => some (.normal, s)
  | .goto l, s => some (.goto l, s)
  | .ret, s => some (.ret, s)
  | .rangeFunc g ps as body, s => match rangeOf P K (ps.size == 2 && flatC K as && flatC K body) (ev s.tmps g) with
    | some xs => rangeGo (roundR N n0 K ps.toList (fun s => absCode P cf sc n N n0 K as s) fun s => absCode P cf sc n N n0 K body s) xs (tidy n0 K s)
    | none => none
  | .refuse _, _ => none

def absScope (P : Program) (cf : CF) (n N n0 : Nat) (K : List (Nat × Kd)) : Nat → Code → Code → St → Option (AX × St)
  | 0, _, _, _ => none
  | m + 1, body, cur, s => match absCode P cf (absScope P cf n N n0 K m) n N n0 K cur s with
    | some (.goto l, s') => match findLabel body l with
      | some rest => absScope P cf n N n0 K m body rest s'
      | none => some (.goto l, s')
    | r => r

def resOf (P : Program) (tmps : Tmps) (h : Heap) : List ResultVar → Option (List V)
  | [] => some []
  | .tmp t :: r => match resOf P tmps h r with
    | none => none
    | some vs => some (tget tmps t :: vs)
  | .cell a t :: r => match tget tmps a, tagg P t, tsize P t with
    | .one l, some g, some n => match rd h l n with
      | none => none
      | some cs => match mkV g cs, resOf P tmps h r with
        | some v, some vs => some (v :: vs)
        | _, _ => none
    | _, _, _ => none

def resV : List V → V
  | [v] => v
  | vs => .tup vs

def scalarL : Leaf → Bool
  | .bool _ => true
  | .int _ _ => true
  | .str _ => true
  | _ => false
def scalarV0 : V → Bool
  | .one l => scalarL l
  | .agg cs => cs.all scalarL
  | _ => false
def scalarV : V → Bool
  | .tup vs => vs.all scalarV0
  | v => scalarV0 v

def cfR (rd : FuncId → Bool) (cf : CF) : CF := fun g args h =>
  match rd g with
  | false => cf g args h
  | true => match mapO (fzV h 0 []) args with
    | none => none
    | some as => match cf g as [] with
      | some (v, _, _) => if scalarV v then some (v, h, []) else none
      | none => none

structure Cfg where
  keep : FuncId → Nat
  live : FuncId → List (Nat × Kd)
  read : FuncId → Bool
  told : FuncId → List V → Option V

def absCall (P : Program) (C : Cfg) : Nat → CF
  | 0, _, _, _ => none
  | n + 1, f, args, h =>
    match C.told f args with
    | some v => some (v, h, [])
    | none => match P.funcs[f]? with
      | none => none
      | some fn => match fn.body with
        | none => none
        | some body =>
          match absCode P (cfR C.read (absCall P C n)) (absScope P (cfR C.read (absCall P C n)) n (max fn.ntmps args.length) h.length (C.live f) n) n (max fn.ntmps args.length) h.length (C.live f) body ⟨argT 0 args, h, []⟩ with
          | some (.normal, s) => (resOf P s.tmps s.heap fn.results.toList).map fun vs => wrapUp (C.keep f) h.length (resV vs) s.heap s.ws
          | some (.ret, s) => (resOf P s.tmps s.heap fn.results.toList).map fun vs => wrapUp (C.keep f) h.length (resV vs) s.heap s.ws
          | _ => none
end Go.Proofs.YtkbdhjfjbkmkcaaGreat.Abs
