/- The abstract machine: an interpreter over the model's own Code, on values whose read-only data are trees. Definitions alone. -/
import Derived.Below
import Derived.Calls
import Derived.Laws.Append
import Derived.Laws.AppendOwn
namespace Go.Proofs.YtkbdhjfjbkmkcaaGreat.Abs
open Go Go.RowKit

inductive Leaf where
  | bool (b : Bool)
  | int (k : IntKind) (n : Int)
  | str (s : List UInt8)
  | nilp
  | ptr (id sz i off : Nat)
  | iptr (cs : List Leaf) (off : Nat)
  | nils
  | zsl
  | sl (id esz sz off len : Nat)
  | isl (es : List (List Leaf))
  | nilm
  | map (id : Nat)
  | nilf
  | fn (f : FuncId) (caps : List Leaf)
  | junk
  | imap (ks : List Leaf) (agg : Bool) (rows : List (List Leaf))
  deriving Inhabited

inductive V where
  | junk
  | one (l : Leaf)
  | agg (cs : List Leaf)
  | tup (vs : List V)
  deriving Inhabited

inductive AO where
  | row (esz : Nat) (elems : List (List Leaf))
  | mp (ck : Nat) (es : List (Leaf × V × Nat))
  deriving Inhabited

abbrev Heap := List (Option AO)

abbrev Tmps := List (Nat × V)

structure St where
  tmps : Tmps
  heap : Heap
  ws : List Nat

inductive AX where
  | normal
  | exit (id : Nat)
  | goto (l : Nat)
  | ret
  deriving DecidableEq

def V.cells : V → List Leaf
  | .agg cs => cs
  | .one l => [l]
  | _ => []

def ofConst : Value → Leaf
  | .bool b => .bool b
  | .int k n => .int k n
  | .string s => .str s.data.toList
  | .pointer none => .nilp
  | .slice none 0 0 => .nils
  | .map none => .nilm
  | .nilFunc => .nilf
  | _ => .junk

def ofConstV : Value → V
  | .agg cs => if cs.all (fun c => c.oneCell') then .agg (cs.toList.map ofConst) else .junk
  | .tuple _ => .junk
  | v => .one (ofConst v)

def tget : Tmps → Nat → V
  | [], _ => .junk
  | p :: r, i => match Nat.beq p.1 i with
    | true => p.2
    | false => tget r i

def ev (tmps : Tmps) : Operand → V
  | .tmp t => tget tmps t
  | .const v => ofConstV v
  | .func f => .one (.fn f [])
  | .global _ => .junk

def put (slot : Option Nat) (h : Heap) (o : AO) : Option (Nat × Heap) :=
  match slot with
  | none => some (h.length, h ++ [some o])
  | some i => match h[i]? with
    | some none => some (i, h.set i (some o))
    | _ => none

def cut (cs : List Leaf) (off n : Nat) : Option (List Leaf) :=
  if off + n ≤ cs.length then some ((cs.drop off).take n) else none

def rowAt (h : Heap) (id sz : Nat) : Option (Nat × List (List Leaf)) :=
  match h[id]? with
  | some (some (.row esz elems)) => if elems.length = sz then some (esz, elems) else none
  | _ => none

def rd (h : Heap) (l : Leaf) (n : Nat) : Option (List Leaf) :=
  match l with
  | .ptr id sz i off => (rowAt h id sz).bind fun r => (r.2[i]?).bind fun cs => cut cs off n
  | .iptr cs off => cut cs off n
  | _ => none

def mkV (agg : Bool) (cs : List Leaf) : Option V :=
  if agg then some (.agg cs) else match cs with
    | [l] => some (.one l)
    | _ => none

def putCells (cs : List Leaf) (off : Nat) (new : List Leaf) : List Leaf := cs.take off ++ new ++ cs.drop (off + new.length)

def wr (h : Heap) (l : Leaf) (new : List Leaf) : Option (Heap × List Nat) :=
  match l with
  | .ptr id sz i off => (rowAt h id sz).bind fun r => (r.2[i]?).bind fun cs =>
      if off + new.length ≤ cs.length then some (h.set id (some (.row r.1 (r.2.set i (putCells cs off new)))), [id]) else none
  | _ => none

def view (h : Heap) : Leaf → Option (List (List Leaf))
  | .nils => some []
  | .zsl => some []
  | .isl es => some es
  | .sl id esz sz off len => (rowAt h id sz).bind fun r => if r.1 = esz ∧ off + len ≤ sz then some ((r.2.drop off).take len) else none
  | _ => none

def tsize (P : Program) (t : TypeId) : Option Nat := (P.info? t).map (·.size)
def tagg (P : Program) (t : TypeId) : Option Bool :=
  match P.underlying t with
  | some (.struct _) | some (.array _ _) => some true
  | some _ => some false
  | none => none
def tzero (P : Program) (t : TypeId) : Option (List Leaf) :=
  match P.info? t with
  | some i => match i.zero with
    | some z => if z.cells.size = i.size ∧ z.cells.all (fun c => c.oneCell') then some (z.cells.toList.map ofConst) else none
    | none => none
  | none => none
def telem (P : Program) (t : TypeId) : Option TypeId :=
  match P.underlying t with
  | some (.slice e) => some e
  | _ => none

def lenL (h : Heap) : Leaf → Option Nat
  | .str s => some s.length
  | .nils => some 0
  | .zsl => some 0
  | .isl es => some es.length
  | .sl _ _ _ _ len => some len
  | .map id => match h[id]? with
    | some (some (.mp _ es)) => some es.length
    | _ => none
  | .nilm => some 0
  | .imap ks _ _ => some ks.length
  | _ => none

def lenOK (P : Program) (t : TypeId) (l : Leaf) : Bool :=
  match P.underlying t, l with
  | some .string, .str _ => true
  | some (.slice _), .nils => true
  | some (.slice _), .zsl => true
  | some (.slice _), .isl _ => true
  | some (.slice _), .sl .. => true
  | some (.map _ _), .map _ => true
  | some (.map _ _), .nilm => true
  | some (.map _ _), .imap .. => true
  | _, _ => false

def intBin (op : BinOp) (k : IntKind) (a b : Int) : Option Leaf :=
  match op with
  | .add => some (.int k (k.wrap (a + b)))
  | .sub => some (.int k (k.wrap (a - b)))
  | .mul => some (.int k (k.wrap (a * b)))
  | .quo => if b = 0 then none else some (.int k (k.wrap (a.tdiv b)))
  | .rem => if b = 0 then none else some (.int k (a.tmod b))
  | .and => some (.int k (k.wrap (BitVec.ofInt k.bits a &&& BitVec.ofInt k.bits b).toNat))
  | .or => some (.int k (k.wrap (BitVec.ofInt k.bits a ||| BitVec.ofInt k.bits b).toNat))
  | .xor => some (.int k (k.wrap (BitVec.ofInt k.bits a ^^^ BitVec.ofInt k.bits b).toNat))
  | .andNot => some (.int k (k.wrap (BitVec.ofInt k.bits a &&& ~~~ BitVec.ofInt k.bits b).toNat))
  | .eql => some (.bool (a == b))
  | .neq => some (.bool (a != b))
  | .lss => some (.bool (decide (a < b)))
  | .leq => some (.bool (decide (a ≤ b)))
  | .gtr => some (.bool (decide (a > b)))
  | .geq => some (.bool (decide (a ≥ b)))
  | _ => none

def strBin (op : BinOp) (a b : List UInt8) : Option Leaf :=
  match op with
  | .add => if a.length + b.length ≤ 9223372036854775807 then some (.str (a ++ b)) else none
  | .eql => some (.bool (a == b))
  | .neq => some (.bool (!(a == b)))
  | .lss => some (.bool (Op.bytesLess a b))
  | .leq => some (.bool (Op.bytesLess a b || a == b))
  | .gtr => some (.bool (!(Op.bytesLess a b || a == b)))
  | .geq => some (.bool (!Op.bytesLess a b))
  | _ => none

def eqLeaf (P : Program) (t : TypeId) (a b : Leaf) : Option Bool :=
  match P.underlying t, a, b with
  | some .bool, .bool x, .bool y => some (x == y)
  | some (.int _), .int j x, .int k y => if j = k then some (x == y) else none
  | some .string, .str x, .str y => some (x == y)
  | some (.pointer _), .nilp, b => match b with | .nilp => some true | .ptr .. => some false | .iptr .. => some false | _ => none
  | some (.pointer _), a, .nilp => match a with | .ptr .. => some false | .iptr .. => some false | _ => none
  | some (.slice _), .nils, b => match b with | .nils => some true | .sl _ _ sz _ _ => if sz = 0 then none else some false | .isl (_ :: _) => some false | _ => none
  | some (.slice _), a, .nils => match a with | .sl _ _ sz _ _ => if sz = 0 then none else some false | .isl (_ :: _) => some false | _ => none
  | some (.map _ _), .nilm, b => match b with | .nilm => some true | .map _ => some false | .imap .. => some false | _ => none
  | some (.map _ _), a, .nilm => match a with | .map _ => some false | .imap .. => some false | _ => none
  | some (.func _ _ _), .nilf, b => match b with | .nilf => some true | .fn .. => some false | _ => none
  | some (.func _ _ _), a, .nilf => match a with | .fn .. => some false | _ => none
  | _, _, _ => none

def eqFields (P : Program) (xs ys : List Leaf) : List Field → Option Bool
  | [] => some true
  | f :: fs =>
    if f.name = "_" then none else
    match P.underlying f.type, xs[f.offset]?, ys[f.offset]? with
    | some .bool, some (.bool x), some (.bool y) => if x == y then eqFields P xs ys fs else some false
    | some (.int _), some (.int j x), some (.int k y) => if j = k then (if x == y then eqFields P xs ys fs else some false) else none
    | some .string, some (.str x), some (.str y) => if x == y then eqFields P xs ys fs else some false
    | _, _, _ => none

def eqV (P : Program) (t : TypeId) (x y : V) : Option Bool :=
  match x, y with
  | .one a, .one b => eqLeaf P t a b
  | .agg xs, .agg ys =>
    match P.underlying t with
    | some (.struct fs) => if P.eqGuardType P.depth t = false ∧ P.stoodInHeld t = false then eqFields P xs ys fs.toList else none
    | _ => none
  | _, _ => none

def binV (P : Program) (op : BinOp) (t : TypeId) (x y : V) : Option V :=
  match x, y with
  | .one (.int k a), .one (.int k' b) =>
    match op with
    | .shl => if b < 0 then none else some (.one (.int k (k.wrap (a * 2 ^ (min b.toNat k.bits)))))
    | .shr => if b < 0 then none else some (.one (.int k (a.fdiv (2 ^ (min b.toNat k.bits)))))
    | op => if k = k' then (intBin op k a b).map .one else none
  | .one (.str a), .one (.str b) => (strBin op a b).map .one
  | x, y => match op with
    | .eql => (eqV P t x y).map fun b => .one (.bool b)
    | .neq => (eqV P t x y).map fun b => .one (.bool (!b))
    | _ => none

def unV (op : UnOp) (x : V) : Option V :=
  match op, x with
  | .not, .one (.bool b) => some (.one (.bool (!b)))
  | .neg, .one (.int k n) => some (.one (.int k (k.wrap (0 - n))))
  | _, _ => none

def partV (P : Program) (t : TypeId) (cs : List Leaf) (off : Nat) : Option V :=
  (tagg P t).bind fun g => (tsize P t).bind fun n => if g then (cut cs off n).map .agg else (cs[off]?).map .one

def fieldOf (P : Program) (s : TypeId) (f : Nat) : Option Field :=
  match P.underlying s with
  | some (.struct fs) => fs[f]?
  | _ => none

def fillAt (place : Nat → Option (Nat × Nat)) (cells : List Leaf) : List (Nat × V) → Option (List Leaf)
  | [] => some cells
  | (i, v) :: rest =>
    match place i with
    | none => none
    | some (off, size) =>
      match v with
      | .junk => none
      | .tup _ => none
      | v => if v.cells.length ≠ size ∨ off + v.cells.length > cells.length then none else fillAt place (putCells cells off v.cells) rest

def structPlaces (P : Program) (fs : List Field) : Option (List (Nat × Nat)) := fs.mapM fun f => (tsize P f.type).map fun n => (f.offset, n)

def chunk (size : Nat) : Nat → List Leaf → List (List Leaf)
  | 0, _ => []
  | n + 1, cs => cs.take size :: chunk size n (cs.drop size)

def natOf : V → Option Nat
  | .one (.int _ n) => if 0 ≤ n then some n.toNat else none
  | _ => none

def optNat (d : Nat) : Option V → Option Nat
  | none => some d
  | some v => natOf v

def boundsV (len : Nat) (lo hi mx : Option V) : Option (Nat × Nat × Option Nat) :=
  (optNat 0 lo).bind fun l => (optNat len hi).bind fun h =>
  (match mx with
    | none => some none
    | some m => if hi.isNone then none else (natOf m).map some).bind fun m => if l ≤ h then some (l, h, m) else none

def elemOK (P : Program) (e : TypeId) : List (List Leaf) → Bool
  | [] => (tsize P e).isSome
  | c :: _ => tsize P e == some c.length

def sliceV (P : Program) (t : TypeId) (x : V) (lo hi mx : Option V) : Option V :=
  match P.underlying t, x with
  | some .string, .one (.str s) =>
    (boundsV s.length lo hi mx).bind fun b => if mx.isNone ∧ b.2.1 ≤ s.length then some (.one (.str ((s.take b.2.1).drop b.1))) else none
  | some (.slice e), .one (.sl id esz sz off len) =>
    (boundsV len lo hi mx).bind fun b => if off + b.2.1 ≤ sz ∧ tsize P e = some esz then
      (match b.2.2 with
      | none => some (.one (.sl id esz sz (off + b.1) (b.2.1 - b.1)))
      | some m => if off + m = sz ∧ b.2.1 ≤ m then some (.one (.sl id esz sz (off + b.1) (b.2.1 - b.1))) else if b.1 = m ∧ b.2.1 = m ∧ off + m ≤ sz then some (.one .zsl) else none)
      else none
  | some (.slice e), .one (.isl es) =>
    (boundsV es.length lo hi mx).bind fun b => if b.2.1 ≤ es.length ∧ elemOK P e es = true then
      (match b.2.2 with
      | none => some (.one (.isl ((es.take b.2.1).drop b.1)))
      | some m => if b.1 = m ∧ b.2.1 = m then some (.one .zsl) else if b.2.1 ≤ m ∧ m ≤ es.length then some (.one (.isl ((es.take b.2.1).drop b.1))) else none)
      else none
  | some (.slice e), .one .nils => (boundsV 0 lo hi mx).bind fun b => if b.2.1 = 0 ∧ (b.2.2 = none ∨ b.2.2 = some 0) ∧ (tsize P e).isSome then some (.one .nils) else none
  | some (.slice e), .one .zsl => (boundsV 0 lo hi mx).bind fun b => if b.2.1 = 0 ∧ (b.2.2 = none ∨ b.2.2 = some 0) ∧ (tsize P e).isSome then some (.one .zsl) else none
  | _, _ => none

def indexAddrV (P : Program) (t : TypeId) (x i : V) : Option V :=
  (natOf i).bind fun i =>
  match P.underlying t, x with
  | some (.slice e), .one (.isl es) => (es[i]?).bind fun cs => if tsize P e = some cs.length then some (.one (.iptr cs 0)) else none
  | some (.slice e), .one (.sl id esz sz off len) => if i < len ∧ tsize P e = some esz then some (.one (.ptr id sz (off + i) 0)) else none
  | some (.array n e), .one (.ptr id sz k off) => (tsize P e).bind fun m => if i < n then some (.one (.ptr id sz k (off + i * m))) else none
  | some (.array n e), .one (.iptr cs off) => (tsize P e).bind fun m => if i < n then some (.one (.iptr cs (off + i * m))) else none
  | _, _ => none

def fieldAddrV (P : Program) (s : TypeId) (x : V) (f : Nat) : Option V :=
  (fieldOf P s f).bind fun fd => (tsize P fd.type).bind fun n => if n = 0 then none else
  match x with
  | .one (.ptr id sz i off) => some (.one (.ptr id sz i (off + fd.offset)))
  | .one (.iptr cs off) => some (.one (.iptr cs (off + fd.offset)))
  | _ => none

def indexV (P : Program) (t : TypeId) (x i : V) : Option V :=
  (natOf i).bind fun i =>
  match P.underlying t, x with
  | some .string, .one (.str s) => (s[i]?).map fun b => .one (.int .u8 b.toNat)
  | some (.array n e), .agg cs => (tsize P e).bind fun m => if i < n then partV P e cs (i * m) else none
  | _, _ => none

abbrev Res := Option (V × Heap × List Nat)
def pureR (h : Heap) (v : Option V) : Res := v.map fun v => (v, h, [])
def allocR (slot : Option Nat) (h : Heap) (o : AO) (mk : Nat → V) : Res := (put slot h o).map fun r => (mk r.1, r.2, [])

def sized (n : Nat) (es : List (List Leaf)) : Bool := es.all fun c => c.length == n

def srcOf (P : Program) (h : Heap) (size : Nat) (tx : TypeId) (x : V) : Option (List (List Leaf)) :=
  match P.underlying tx, x with
  | some (.slice _), .one l => (view h l).bind fun es => if sized size es then some es else none
  | _, _ => none

def appendV (P : Program) (slot : Option Nat) (h : Heap) (t tx : TypeId) (s x : V) : Res :=
  (telem P t).bind fun e => (P.info? e).bind fun i => (tzero P e).bind fun _ =>
  (srcOf P h i.size tx x).bind fun xs =>
  if i.size = 0 ∨ t ≠ tx then none else
  match s with
  | .one .nils => if xs.length = 0 then some (.one .nils, h, []) else
      if xs.length * i.bytes ≤ 140737488355328 ∧ xs.length ≤ 140737488355328 then allocR slot h (.row i.size xs) fun id => .one (.sl id i.size xs.length 0 xs.length) else none
  | .one .zsl => if xs.length = 0 then some (.one .zsl, h, []) else
      if xs.length * i.bytes ≤ 140737488355328 ∧ xs.length ≤ 140737488355328 then allocR slot h (.row i.size xs) fun id => .one (.sl id i.size xs.length 0 xs.length) else none
  | .one (.sl id esz sz off len) =>
    (rowAt h id sz).bind fun r =>
    if r.1 ≠ esz ∨ esz ≠ i.size then none else
    if xs.length = 0 then (if off + len ≤ sz then some (.one (.sl id esz sz off len), h, []) else none) else
    if off + len = sz then
      (if off = 0 ∧ (sz + xs.length) * i.bytes ≤ 140737488355328 ∧ sz + xs.length ≤ 140737488355328 then
        some (.one (.sl id esz (sz + xs.length) 0 (sz + xs.length)), h.set id (some (.row esz (r.2 ++ xs))), [id]) else none)
    else if off + len + xs.length ≤ sz then
      some (.one (.sl id esz sz off (len + xs.length)), h.set id (some (.row esz (r.2.take (off + len) ++ xs ++ r.2.drop (off + len + xs.length)))), [id])
    else none
  | _ => none

def copyV (P : Program) (h : Heap) (t tx : TypeId) (d x : V) : Res :=
  (telem P t).bind fun e => (P.info? e).bind fun i =>
  (srcOf P h i.size tx x).bind fun xs =>
  if t ≠ tx then none else
  match d with
  | .one (.sl id esz sz off len) =>
    (rowAt h id sz).bind fun r =>
    if r.1 ≠ esz ∨ esz ≠ i.size ∨ sz < off + len ∨ sz = 0 then none else
    let n := Nat.min xs.length len
    some (.one (.int .i64 n), h.set id (some (.row esz (r.2.take off ++ xs.take n ++ r.2.drop (off + n)))), [id])
  | _ => none

def makeSliceV (P : Program) (slot : Option Nat) (h : Heap) (t : TypeId) (l c : V) : Res :=
  (telem P t).bind fun e => (P.info? e).bind fun i => (tzero P e).bind fun z => (natOf l).bind fun l => (natOf c).bind fun c =>
  if l ≤ c ∧ i.bytes * c ≤ 281474976710656 ∧ c ≤ 281474976710656 ∧ 0 < i.size then
    allocR slot h (.row i.size (List.replicate l z)) fun id => .one (.sl id i.size l 0 l) else none

def buildSliceV (P : Program) (slot : Option Nat) (h : Heap) (t : TypeId) (len : Nat) (parts : List (Nat × V)) : Res :=
  (telem P t).bind fun e => (P.info? e).bind fun i => (tzero P e).bind fun z =>
  if len * i.size > 16777216 ∨ i.size = 0 then none else
  (fillAt (fun k => some (k * i.size, i.size)) ((List.replicate len z).flatten) parts).bind fun cs =>
    allocR slot h (.row i.size (chunk i.size len cs)) fun id => .one (.sl id i.size len 0 len)

def buildV (P : Program) (t : TypeId) (parts : List (Nat × V)) : Option V :=
  (tzero P t).bind fun z =>
  match P.underlying t with
  | some (.struct fs) => (structPlaces P fs.toList).bind fun ps => (fillAt (fun k => ps[k]?) z parts).map .agg
  | some (.array _ e) => (tsize P e).bind fun n => (fillAt (fun k => some (k * n, n)) z parts).map .agg
  | _ => none

def bytesOf : List (List Leaf) → Option (List UInt8)
  | [] => some []
  | [.int .u8 n] :: rest => (bytesOf rest).map fun r => UInt8.ofNat n.toNat :: r
  | _ => none

def convertV (P : Program) (h : Heap) (src dst : TypeId) (x : V) : Option V :=
  match P.underlying src, P.underlying dst, x with
  | some _, some (.int k), .one (.int _ n) => some (.one (.int k (k.wrap n)))
  | some _, some .string, .one (.str s) => some (.one (.str s))
  | some (.slice e), some .string, .one l =>
    match P.underlying e with
    | some (.int .u8) => (view h l).bind fun es => (bytesOf es).map fun s => .one (.str s)
    | _ => none
  | some .string, some (.slice e), .one (.str s) =>
    match P.underlying e with
    | some (.int .u8) => some (.one (.isl (s.map fun b => [.int .u8 b.toNat])))
    | _ => none
  | _, _, _ => none

/-! Maps: entries in the order in which they were put in; keys are numbers, strings, truths. -/
def keyEq (d : TypeDesc) : Leaf → Leaf → Option Bool
  | .int j a, .int k b => match d with
    | .int _ => if j = k then some (a == b) else none
    | _ => none
  | .str a, .str b => match d with
    | .string => some (a == b)
    | _ => none
  | .bool a, .bool b => match d with
    | .bool => some (a == b)
    | _ => none
  | _, _ => none

def isKeyL (d : TypeDesc) : Leaf → Bool
  | .int j _ => match d with
    | .int k => decide (j = k)
    | _ => false
  | .str _ => match d with
    | .string => true
    | _ => false
  | .bool _ => match d with
    | .bool => true
    | _ => false
  | _ => false

def findE (d : TypeDesc) (k : Leaf) : List (Leaf × V × Nat) → Option (Option V)
  | [] => some none
  | e :: es => match keyEq d k e.1 with
    | some true => some (some e.2.1)
    | some false => findE d k es
    | none => none

def consE (e : Leaf × V × Nat) (r : List (Leaf × V × Nat) × Nat) : List (Leaf × V × Nat) × Nat := (e :: r.1, r.2)
def updE (d : TypeDesc) (k : Leaf) (v : V) (ck : Nat) : List (Leaf × V × Nat) → Option (List (Leaf × V × Nat) × Nat)
  | [] => some ([(k, v, ck)], ck + 1)
  | e :: es => match keyEq d k e.1 with
    | some true => some ((k, v, e.2.2) :: es, ck)
    | some false => (updE d k v ck es).map (consE e)
    | none => none

def delE (d : TypeDesc) (k : Leaf) : List (Leaf × V × Nat) → Option (List (Leaf × V × Nat))
  | [] => some []
  | e :: es => match keyEq d k e.1 with
    | some true => some es
    | some false => (delE d k es).map (e :: ·)
    | none => none

def consF (e : Leaf × V × Nat) (r : List (Leaf × V × Nat) × Nat × V × Nat) : List (Leaf × V × Nat) × Nat × V × Nat := (e :: r.1, r.2)
def entE (d : TypeDesc) (k : Leaf) (z : Option V) (ck : Nat) : List (Leaf × V × Nat) → Option (List (Leaf × V × Nat) × Nat × V × Nat)
  | [] => match z with
    | some v => some ([(k, v, ck)], ck + 1, v, ck)
    | none => none
  | e :: es => match keyEq d k e.1 with
    | some true => some ((k, e.2.1, e.2.2) :: es, ck, e.2.1, e.2.2)
    | some false => (entE d k z ck es).map (consF e)
    | none => none

def stoE (b : Int) (x : V) : List (Leaf × V × Nat) → Option (List (Leaf × V × Nat))
  | [] => none
  | e :: es => if (e.2.2 : Int) == b then some ((e.1, x, e.2.2) :: es) else (stoE b x es).map (e :: ·)

def tzeroV (P : Program) (t : TypeId) : Option V := match P.info? t with
  | some i => match i.zero with
    | some z => some (ofConstV z)
    | none => none
  | none => none

def mapT (P : Program) (t : TypeId) : Option (TypeDesc × TypeId) := match P.underlying t with
  | some (.map k e) => match P.underlying k with
    | some d => some (d, e)
    | none => none
  | _ => none

def entV (agg : Bool) (cs : List Leaf) : V := match agg, cs with
  | true, cs => .agg cs
  | false, [l] => .one l
  | _, _ => .junk
def entsOf (agg : Bool) : List Leaf → List (List Leaf) → List (Leaf × V × Nat)
  | k :: ks, r :: rs => (k, entV agg r, 0) :: entsOf agg ks rs
  | _, _ => []
def mapOf (h : Heap) : V → Option (List (Leaf × V × Nat))
  | .one .nilm => some []
  | .one (.imap ks g rows) => some (entsOf g ks rows)
  | .one (.map id) => match h[id]? with
    | some (some (.mp _ es)) => some es
    | _ => none
  | _ => none

def foundV (ok : Bool) (v : V) (b : Bool) : V := if ok then .tup [v, .one (.bool b)] else v
def lookupV (P : Program) (h : Heap) (t : TypeId) (m k : V) (ok : Bool) : Option V :=
  (mapT P t).bind fun q => (mapOf h m).bind fun es => match k with
    | .one lk => if isKeyL q.1 lk then (findE q.1 lk es).bind fun r => match r with
        | some v => some (foundV ok v true)
        | none => (tzeroV P q.2).map fun v => foundV ok v false
      else none
    | _ => none

def mapUpdV (P : Program) (h : Heap) (t : TypeId) (m k x : V) : Res :=
  (mapT P t).bind fun q => match m with
    | .one (.map id) => match k with
      | .one lk => if isKeyL q.1 lk then match h[id]? with
          | some (some (.mp ck es)) => (updE q.1 lk x ck es).map fun r => (.junk, h.set id (some (.mp r.2 r.1)), [id])
          | _ => none
        else none
      | _ => none
    | _ => none

def delV (P : Program) (h : Heap) (t : TypeId) (m k : V) : Res :=
  (mapT P t).bind fun q => match m with
    | .one (.map id) => match k with
      | .one lk => if isKeyL q.1 lk then match h[id]? with
          | some (some (.mp ck es)) => (delE q.1 lk es).map fun es' => (.tup [], h.set id (some (.mp ck es')), [id])
          | _ => none
        else none
      | _ => none
    | _ => none

def mapEntV (P : Program) (h : Heap) (t : TypeId) (m k : V) : Res :=
  (mapT P t).bind fun q => match m with
    | .one (.map id) => match k with
      | .one lk => if isKeyL q.1 lk then match h[id]? with
          | some (some (.mp ck es)) => (entE q.1 lk (tzeroV P q.2) ck es).map fun r => (.tup [r.2.2.1, .one (.int .i64 (r.2.2.2 : Nat))], h.set id (some (.mp r.2.1 r.1)), [id])
          | _ => none
        else none
      | _ => none
    | _ => none

def entStoV (h : Heap) (m b x : V) : Res := match m with
  | .one (.map id) => match b with
    | .one (.int .i64 n) => match h[id]? with
      | some (some (.mp ck es)) => (stoE n x es).map fun es' => (.junk, h.set id (some (.mp ck es')), [id])
      | _ => none
    | _ => none
  | _ => none

def maxV : V → V → Option V
  | .one (.int k a), .one (.int _ b) => some (.one (.int k (if b > a then b else a)))
  | _, _ => none

def callee (P : Program) (f : FuncId) : Bool :=
  match P.funcs[f]? with
  | some fn => fn.body.isSome && fn.name != "runtime.NumGoroutine"
  | none => false

abbrev CF := FuncId → List V → Heap → Option (V × Heap × List Nat)

def absOp (P : Program) (cf : CF) (slot : Option Nat) (tmps : Tmps) (h : Heap) (o : Oper) : Res :=
  match o.op with
  | .move x => pureR h (some (ev tmps x))
  | .assign x => pureR h (some (ev tmps x))
  | .pick c a b => match ev tmps c with
    | .one (.bool true) => pureR h (some (ev tmps a))
    | .one (.bool false) => pureR h (some (ev tmps b))
    | _ => none
  | .alloc e => (tzero P e).bind fun z => allocR slot h (.row z.length [z]) fun id => .one (.ptr id 1 0 0)
  | .box _ x => match ev tmps x with
    | .one l => allocR slot h (.row 1 [[l]]) fun id => .one (.ptr id 1 0 0)
    | .agg cs => allocR slot h (.row cs.length [cs]) fun id => .one (.ptr id 1 0 0)
    | _ => none
  | .build t parts => pureR h (buildV P t (parts.toList.map fun p => (p.1, ev tmps p.2)))
  | .buildSlice t len parts => buildSliceV P slot h t len (parts.toList.map fun p => (p.1, ev tmps p.2))
  | .load t a => match ev tmps a with
    | .one l => (tagg P t).bind fun g => (tsize P t).bind fun n => (rd h l n).bind fun cs => pureR h (mkV g cs)
    | _ => none
  | .store t a x => match ev tmps a with
    | .one l => (tsize P t).bind fun n => match ev tmps x with
      | .one y => if n = 1 then (wr h l [y]).map fun r => (.junk, r.1, r.2) else none
      | .agg cs => if n = cs.length then (wr h l cs).map fun r => (.junk, r.1, r.2) else none
      | _ => none
    | _ => none
  | .nilCheck x => match ev tmps x with
    | .one (.ptr a b c d) => pureR h (some (.one (.ptr a b c d)))
    | .one (.iptr a b) => pureR h (some (.one (.iptr a b)))
    | .one (.fn a b) => pureR h (some (.one (.fn a b)))
    | _ => none
  | .binOp op t x y _ => pureR h (binV P op t (ev tmps x) (ev tmps y))
  | .unOp op _ x => pureR h (unV op (ev tmps x))
  | .convert s d x => pureR h (convertV P h s d (ev tmps x))
  | .makeFunc (.func f) first caps =>
    if first.size = 0 then
      (caps.toList.mapM fun c => match ev tmps c with | .one l => some l | _ => none).bind fun ls => pureR h (some (.one (.fn f ls)))
    else none
  | .makeMap _ none => allocR slot h (.mp 0 []) fun id => .one (.map id)
  | .lookup t m k ok => pureR h (lookupV P h t (ev tmps m) (ev tmps k) ok)
  | .mapUpdate t m k x => mapUpdV P h t (ev tmps m) (ev tmps k) (ev tmps x)
  | .mapEntry t m k => mapEntV P h t (ev tmps m) (ev tmps k)
  | .entryStore _ m b x => entStoV h (ev tmps m) (ev tmps b) (ev tmps x)
  | .makeSlice t l c => makeSliceV P slot h t (ev tmps l) (ev tmps c)
  | .slice t x lo hi mx => pureR h (sliceV P t (ev tmps x) (lo.map (ev tmps)) (hi.map (ev tmps)) (mx.map (ev tmps)))
  | .fieldAddr s x f => pureR h (fieldAddrV P s (ev tmps x) f)
  | .field s x f => match ev tmps x with
    | .agg cs => pureR h ((fieldOf P s f).bind fun fd => partV P fd.type cs fd.offset)
    | _ => none
  | .indexAddr t x i => pureR h (indexAddrV P t (ev tmps x) (ev tmps i))
  | .index t x i => pureR h (indexV P t (ev tmps x) (ev tmps i))
  | .extract t i => match ev tmps t with
    | .tup vs => pureR h vs[i]?
    | _ => none
  | .call { callee := .builtin b, args, argTypes } =>
    match b, args.toList, argTypes.toList with
    | .len, [x], [t] => match ev tmps x with
      | .one l => if lenOK P t l then pureR h ((lenL h l).map fun (n : Nat) => V.one (.int .i64 (n : Int))) else none
      | _ => none
    | .append, [s, x], [t, tx] => appendV P slot h t tx (ev tmps s) (ev tmps x)
    | .copy, [s, x], [t, tx] => copyV P h t tx (ev tmps s) (ev tmps x)
    | .delete, [m, k], [t, _] => delV P h t (ev tmps m) (ev tmps k)
    | .max, [x, y], _ => pureR h (maxV (ev tmps x) (ev tmps y))
    | _, _, _ => none
  | .call { callee := .value f, args, .. } =>
    match ev tmps f with
    | .one (.fn g caps) => if callee P g then cf g (args.toList.map (ev tmps) ++ caps.map V.one) h else none
    | _ => none
  | _ => none

def wantedA (ops : Array Oper) (tmps : Tmps) (o : Oper) : Option Bool :=
  match o.guard with
  | none => some true
  | some (j, want) => match (ops[j]?).bind (·.dst) with
    | some t => match tget tmps t with
      | .one (.bool b) => some (b == want)
      | .tup _ => some false
      | _ => none
    | none => none

def setD (N : Nat) (tmps : Tmps) (dst : Option Nat) (v : V) : Tmps :=
  match dst with
  | some d => if d < N then (d, v) :: tmps else tmps
  | none => tmps

def absOps (P : Program) (cf : CF) (N : Nat) (ops : Array Oper) : List Oper → St → Option St
  | [], s => some s
  | o :: rest, s =>
    match wantedA ops s.tmps o with
    | none => none
    | some false => absOps P cf N ops rest { s with tmps := setD N s.tmps o.dst (.tup []) }
    | some true => match absOp P cf none s.tmps s.heap o with
      | none => none
      | some (v, h, ws) => absOps P cf N ops rest { tmps := setD N s.tmps o.dst v, heap := h, ws := s.ws ++ ws }

def clearM (K : List Nat) (t : Tmps) : Tmps := K.map fun i => (i, tget t i)

def argT (i : Nat) : List V → Tmps
  | [] => []
  | v :: vs => (i, v) :: argT (i + 1) vs

def iter (f : St → Option (AX × St)) : Nat → St → Option (AX × St)
  | 0, _ => none
  | n + 1, s => match f s with
    | some (.normal, s') => iter f n s'
    | r => r
end Go.Proofs.YtkbdhjfjbkmkcaaGreat.Abs
