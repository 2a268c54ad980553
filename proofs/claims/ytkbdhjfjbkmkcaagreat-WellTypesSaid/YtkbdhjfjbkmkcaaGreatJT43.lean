/- YtkbdhjfjbkmkcaaGreatJT43: texts that follow each other, as one. -/
import Derived.Test.YtkbdhjfjbkmkcaaGreatJT41
import Derived.Test.YtkbdhjfjbkmkcaaGreatJT42
import Derived.Test.YtkbdhjfjbkmkcaaGreatJT36
import Derived.Test.YtkbdhjfjbkmkcaaGreatJT32
/- Lists of lists that a call makes and grows: a row of slices, and a row for each. -/
set_option linter.unusedSimpArgs false
set_option linter.unusedVariables false
namespace Go.Proofs.YtkbdhjfjbkmkcaaGreat.Abs
open Go Go.RowKit Go.Proofs

def fam (rows : List (List Int)) : Heap := rows.map fun l => some (.row 1 (intsOf l))
def outR (b : Nat) : Nat → List (List Int) → List (List Leaf)
  | _, [] => []
  | k, l :: ls => [.sl (b + k) 1 l.length 0 l.length] :: outR b (k + 1) ls
def idsR (b : Nat) : Nat → Nat → List (Option Nat)
  | _, 0 => []
  | k, n + 1 => some (b + k) :: idsR b (k + 1) n
def listsOf (ls : List (List Int)) : List (List Leaf) := ls.map fun l => [.isl (intsOf l)]
@[simp] theorem listsOf_length (ls : List (List Int)) : (listsOf ls).length = ls.length := by simp [listsOf]
@[simp] theorem listsOf_get (ls : List (List Int)) (i : Nat) : (listsOf ls)[i]? = (ls[i]?).map fun l => [.isl (intsOf l)] := by simp [listsOf]
@[simp] theorem listsOf_plain (ls : List (List Int)) : plainR (listsOf ls) = true := plainR_map (fun _ => rfl) ls
@[simp] theorem listsOf_tree (ls : List (List Int)) : treeR (listsOf ls) = true := treeR_map (fun _ => rfl) ls
@[simp] theorem sized_lists (ls : List (List Int)) : sized 1 (listsOf ls) = true := sized_map (n := 1) (f := fun l : List Int => [Leaf.isl (intsOf l)]) (fun _ => rfl) ls
@[simp] theorem listsOf_nil : listsOf [] = [] := rfl
@[simp] theorem fam_length (rows : List (List Int)) : (fam rows).length = rows.length := by simp [fam]
@[simp] theorem outR_length (b : Nat) : ∀ (k : Nat) (ls : List (List Int)), (outR b k ls).length = ls.length
  | _, [] => rfl
  | k, l :: ls => by simp [outR, outR_length b (k + 1) ls]
@[simp] theorem idsR_length (b : Nat) : ∀ (k n : Nat), (idsR b k n).length = n
  | _, 0 => rfl
  | k, n + 1 => by simp [idsR, idsR_length b (k + 1) n]
@[simp] theorem outR_get (b : Nat) : ∀ (k : Nat) (ls : List (List Int)) (i : Nat), (outR b k ls)[i]? = (ls[i]?).map fun l => [.sl (b + (i + k)) 1 l.length 0 l.length]
  | _, [], i => by simp [outR]
  | k, l :: ls, 0 => by simp [outR]
  | k, l :: ls, i + 1 => by
    simp only [outR, List.getElem?_cons_succ, outR_get b (k + 1) ls i]
    rw [show i + (k + 1) = i + 1 + k by omega]
def plL : Leaf → Bool
  | .ptr .. => false
  | .sl .. => false
  | .map _ => false
  | .fn _ caps => caps.all treeL
  | _ => true
def plV : V → Bool
  | .one l => plL l
  | .agg cs => cs.all plL
  | .junk => true
  | .tup _ => false
@[simp] theorem plL_int (k : IntKind) (n : Int) : plL (.int k n) = true := rfl
@[simp] theorem plL_bool (b : Bool) : plL (.bool b) = true := rfl
@[simp] theorem plL_str (s : List UInt8) : plL (.str s) = true := rfl
@[simp] theorem plL_isl (es : List (List Leaf)) : plL (.isl es) = true := rfl
@[simp] theorem plL_iptr (cs : List Leaf) (off : Nat) : plL (.iptr cs off) = true := rfl
@[simp] theorem plL_nils : plL .nils = true := rfl
@[simp] theorem plV_one (l : Leaf) : plV (.one l) = plL l := rfl
@[simp] theorem plV_junk : plV .junk = true := rfl
end Go.Proofs.YtkbdhjfjbkmkcaaGreat.Abs

/- What makeSlice makes, type by type. Printed by tm.py. -/
namespace Go.Proofs.YtkbdhjfjbkmkcaaGreat.Abs
open Go Go.RowKit Go.Proofs
theorem op_makeSlice {P : Program} {H : Heap} {cf : CF} {dst : Option Nat} {ty : TypeId} {pos : String} {after : Array Edge} {guard : Option (Nat × Bool)} {T : Tmps} (t : TypeId) (l c : Operand) : absOp P cf none T H ⟨dst, .makeSlice t l c, ty, pos, after, guard⟩ = makeSliceV P none H t (ev T l) (ev T c) := rfl
theorem mks22 {H : Heap} (k k' : IntKind) {l c : Nat} (hl : l ≤ c) (hr : c * 80 ≤ 140737488355328) : makeSliceV Tryz.prog none H 22 (.one (.int k (l : Nat))) (.one (.int k' (c : Nat))) = some (.one (.sl H.length 5 l 0 l), H ++ [some (.row 5 (List.replicate l [.str [], .nils, .int .i64 0, .nils, .int .i64 0]))], []) := make_room E22 k k' hl hr
theorem mks33 {H : Heap} (k k' : IntKind) {l c : Nat} (hl : l ≤ c) (hr : c * 8 ≤ 140737488355328) : makeSliceV Tryz.prog none H 33 (.one (.int k (l : Nat))) (.one (.int k' (c : Nat))) = some (.one (.sl H.length 1 l 0 l), H ++ [some (.row 1 (List.replicate l [.int .i64 0]))], []) := make_room E33 k k' hl hr
theorem mks34 {H : Heap} (k k' : IntKind) {l c : Nat} (hl : l ≤ c) (hr : c * 24 ≤ 140737488355328) : makeSliceV Tryz.prog none H 34 (.one (.int k (l : Nat))) (.one (.int k' (c : Nat))) = some (.one (.sl H.length 1 l 0 l), H ++ [some (.row 1 (List.replicate l [.nils]))], []) := make_room E34 k k' hl hr
theorem mks44 {H : Heap} (k k' : IntKind) {l c : Nat} (hl : l ≤ c) (hr : c * 1 ≤ 140737488355328) : makeSliceV Tryz.prog none H 44 (.one (.int k (l : Nat))) (.one (.int k' (c : Nat))) = some (.one (.sl H.length 1 l 0 l), H ++ [some (.row 1 (List.replicate l [.int .u8 0]))], []) := make_room E44 k k' hl hr
theorem mks45 {H : Heap} (k k' : IntKind) {l c : Nat} (hl : l ≤ c) (hr : c * 104 ≤ 140737488355328) : makeSliceV Tryz.prog none H 45 (.one (.int k (l : Nat))) (.one (.int k' (c : Nat))) = some (.one (.sl H.length 8 l 0 l), H ++ [some (.row 8 (List.replicate l [.int .i64 0, .int .i64 0, .int .i64 0, .int .i64 0, .nils, .nils, .str [], .int .i64 0]))], []) := make_room E45 k k' hl hr
theorem mks65 {H : Heap} (k k' : IntKind) {l c : Nat} (hl : l ≤ c) (hr : c * 24 ≤ 140737488355328) : makeSliceV Tryz.prog none H 65 (.one (.int k (l : Nat))) (.one (.int k' (c : Nat))) = some (.one (.sl H.length 2 l 0 l), H ++ [some (.row 2 (List.replicate l [.str [], .int .i64 0]))], []) := make_room E65 k k' hl hr
theorem mks75 {H : Heap} (k k' : IntKind) {l c : Nat} (hl : l ≤ c) (hr : c * 24 ≤ 140737488355328) : makeSliceV Tryz.prog none H 75 (.one (.int k (l : Nat))) (.one (.int k' (c : Nat))) = some (.one (.sl H.length 1 l 0 l), H ++ [some (.row 1 (List.replicate l [.nils]))], []) := make_room E75 k k' hl hr
theorem mks84 {H : Heap} (k k' : IntKind) {l c : Nat} (hl : l ≤ c) (hr : c * 24 ≤ 140737488355328) : makeSliceV Tryz.prog none H 84 (.one (.int k (l : Nat))) (.one (.int k' (c : Nat))) = some (.one (.sl H.length 1 l 0 l), H ++ [some (.row 1 (List.replicate l [.nils]))], []) := make_room E84 k k' hl hr
theorem mks122 {H : Heap} (k k' : IntKind) {l c : Nat} (hl : l ≤ c) (hr : c * 1 ≤ 140737488355328) : makeSliceV Tryz.prog none H 122 (.one (.int k (l : Nat))) (.one (.int k' (c : Nat))) = some (.one (.sl H.length 1 l 0 l), H ++ [some (.row 1 (List.replicate l [.bool false]))], []) := make_room E122 k k' hl hr
theorem mks186 {H : Heap} (k k' : IntKind) {l c : Nat} (hl : l ≤ c) (hr : c * 16 ≤ 140737488355328) : makeSliceV Tryz.prog none H 186 (.one (.int k (l : Nat))) (.one (.int k' (c : Nat))) = some (.one (.sl H.length 1 l 0 l), H ++ [some (.row 1 (List.replicate l [.str []]))], []) := make_room E186 k k' hl hr
attribute [simp] op_makeSlice mks22 mks33 mks34 mks44 mks45 mks65 mks75 mks84 mks122 mks186
end Go.Proofs.YtkbdhjfjbkmkcaaGreat.Abs

/- Functions of the program's own kind, as the machine holds them; to which blocks one goes. -/
set_option linter.unusedSimpArgs false
set_option linter.unusedVariables false
namespace Go.Proofs.YtkbdhjfjbkmkcaaGreat.Abs
open Go Go.RowKit Go.Proofs

structure Ins where
  op : Int
  id : Int
  n : Int
  ty : Int
  args : List Int
  to : List Int
  name : List UInt8
  at_ : Int
structure Fn where
  name : List UInt8
  params : List Int
  ret : Int
  blocks : List (List Ins)
  at_ : Int
def encIns (x : Ins) : List Leaf := [.int .i64 x.op, .int .i64 x.id, .int .i64 x.n, .int .i64 x.ty, .isl (intsOf x.args), .isl (intsOf x.to), .str x.name, .int .i64 x.at_]
def codeOf (l : List Ins) : List (List Leaf) := l.map encIns
def blksOf (bs : List (List Ins)) : List (List Leaf) := bs.map fun l => [.isl (codeOf l)]
def encFn (f : Fn) : List Leaf := [.str f.name, .isl (intsOf f.params), .int .i64 f.ret, .isl (blksOf f.blocks), .int .i64 f.at_]
@[simp] theorem codeOf_length (l : List Ins) : (codeOf l).length = l.length := by simp [codeOf]
@[simp] theorem codeOf_get (l : List Ins) (i : Nat) : (codeOf l)[i]? = (l[i]?).map encIns := by simp [codeOf]
@[simp] theorem codeOf_plain (l : List Ins) : plainR (codeOf l) = true := plainR_map (fun _ => rfl) l
@[simp] theorem codeOf_tree (l : List Ins) : treeR (codeOf l) = true := treeR_map (fun _ => rfl) l
@[simp] theorem blksOf_length (l : List (List Ins)) : (blksOf l).length = l.length := by simp [blksOf]
@[simp] theorem blksOf_get (l : List (List Ins)) (i : Nat) : (blksOf l)[i]? = (l[i]?).map fun l => [.isl (codeOf l)] := by simp [blksOf]
@[simp] theorem blksOf_plain (l : List (List Ins)) : plainR (blksOf l) = true := plainR_map (fun _ => rfl) l
@[simp] theorem blksOf_tree (l : List (List Ins)) : treeR (blksOf l) = true := treeR_map (fun _ => rfl) l
@[simp] theorem encFn_plain (f : Fn) : plainC (encFn f) = true := rfl
@[simp] theorem encFn_tree (f : Fn) : treeC (encFn f) = true := rfl
@[simp] theorem encFn_length (f : Fn) : (encFn f).length = 5 := rfl

structure Ins.Ok (x : Ins) : Prop where
  args : Fit x.args
  to : Fit x.to
structure Fn.Ok (f : Fn) : Prop where
  params : Fit f.params
  blocks : Fit f.blocks
  code : ∀ l, l ∈ f.blocks → Fit l
  each : ∀ l, l ∈ f.blocks → ∀ x, x ∈ l → x.Ok

def addU (out : List Int) (b : Int) : List Int := if out.contains b then out else out ++ [b]
def toB (l : List Ins) : List Int := match l[l.length - 1]? with
  | some x => x.to
  | none => []
def nextB (l : List Ins) : List Int := (toB l).foldl addU []
def Ended (f : Fn) : Prop := ∀ l, l ∈ f.blocks → l ≠ []
theorem addU_len (out : List Int) (b : Int) : (addU out b).length ≤ out.length + 1 := by
  unfold addU; split <;> simp
theorem foldU_len : ∀ (xs out : List Int), (xs.foldl addU out).length ≤ out.length + xs.length
  | [], out => by simp
  | x :: xs, out => by
    have h1 := foldU_len xs (addU out x)
    have h2 := addU_len out x
    simp only [List.foldl_cons, List.length_cons]
    omega
end Go.Proofs.YtkbdhjfjbkmkcaaGreat.Abs

/- To which blocks each block goes. -/
set_option linter.unusedSimpArgs false
set_option linter.unusedVariables false
namespace Go.Proofs.YtkbdhjfjbkmkcaaGreat.Abs
open Go Go.RowKit Go.Proofs

theorem toB_ok {f : Fn} (hf : f.Ok) {l : List Ins} (hl : l ∈ f.blocks) : Fit (toB l) := by
  unfold toB
  split
  · rename_i x hx
    exact (hf.each l hl x (List.mem_of_getElem? hx)).to
  · simp [Fit]

end Go.Proofs.YtkbdhjfjbkmkcaaGreat.Abs

/- From which blocks each block is gone to. -/
set_option linter.unusedSimpArgs false
set_option linter.unusedVariables false
namespace Go.Proofs.YtkbdhjfjbkmkcaaGreat.Abs
open Go Go.RowKit Go.Proofs

def addP (k : Nat) (rows : List (List Int)) (b : Int) : List (List Int) := rows.set b.toNat (rows.getD b.toNat [] ++ [(k : Int)])
theorem addP_len (k : Nat) (rows : List (List Int)) (b : Int) : (addP k rows b).length = rows.length := by simp [addP]
theorem foldP_len (k : Nat) : ∀ (xs : List Int) (rows : List (List Int)), (xs.foldl (addP k) rows).length = rows.length
  | [], rows => rfl
  | x :: xs, rows => by rw [List.foldl_cons, foldP_len k xs, addP_len]
def Low (m : Nat) (rows : List (List Int)) : Prop := ∀ l, l ∈ rows → l.length ≤ m
theorem Low.mono {m m' : Nat} {rows : List (List Int)} (h : Low m rows) (hm : m ≤ m') : Low m' rows := fun l hl => Nat.le_trans (h l hl) hm

structure Edges (ss : List (List Int)) : Prop where
  len : ss.length ≤ 1000
  each : ∀ l, l ∈ ss → l.length ≤ 1000 ∧ ∀ b, b ∈ l → 0 ≤ b ∧ b < ss.length

def predsG : Nat → List (List Int) → List (List Int) → List (List Int)
  | _, [], rows => rows
  | k, l :: ls, rows => predsG (k + 1) ls (l.foldl (addP k) rows)
def predsF (ss : List (List Int)) : List (List Int) := predsG 0 ss (List.replicate ss.length [])
theorem predsG_len : ∀ (k : Nat) (ls rows : List (List Int)), (predsG k ls rows).length = rows.length
  | _, [], _ => rfl
  | k, l :: ls, rows => by rw [predsG, predsG_len, foldP_len]
@[simp] theorem predsF_len (ss : List (List Int)) : (predsF ss).length = ss.length := by simp [predsF, predsG_len]

structure Fn.Fine (f : Fn) : Prop where
  ok : f.Ok
  ended : Ended f
  len : f.blocks.length ≤ 1000
  edges : Edges (f.blocks.map nextB)

end Go.Proofs.YtkbdhjfjbkmkcaaGreat.Abs

/- To which blocks each one goes, as the document tells it. -/
set_option linter.unusedSimpArgs false
set_option linter.unusedVariables false
namespace Go.Proofs.YtkbdhjfjbkmkcaaGreat.Abs
open Go Go.RowKit Go.Proofs

def nxS (h : Heap) (xs : List Int) (i : Nat) (out : List Int) : St := ⟨[(7, I (i : Nat)), (6, Sl (intsOf xs)), (5, .one (.sl h.length 1 out.length 0 out.length))], h ++ [some (.row 1 (intsOf out))], []⟩
theorem nx_loop (h : Heap) (xs : List Int) (hx : Fit xs) :
    lpK 19 Tryz.f19 44 0 h (nxS h xs 0 []) = some (.exit 0, nxS h xs xs.length (xs.foldl addU [])) := by
  refine loop_list (P := Tryz.prog) (C := cfg) (sc := runScope Tryz.prog cfg 44 h.length (cfg.live 19) 0) (N := 44) (n0 := h.length) (K := cfg.live 19) (c := loopAt Tryz.f19 0) xs addU
    (fun i out => nxS h xs i out) (fun out => (.exit 0, nxS h xs xs.length out)) (fun i out => out.length ≤ i) ?_ ?_ [] (by simp)
  · intro i out x hd hl
    have hi := (List.getElem?_eq_some_iff.1 hd).1
    have hiI : ((i : Nat) : Int) < ((xs.length : Nat) : Int) := by omega
    have hxf : xs.length ≤ 17592186044416 := hx
    have hfa : Fit out := by show out.length ≤ 17592186044416; omega
    refine ⟨?_, by have := addU_len out x; omega⟩
    by_cases hc : out.contains x = true
    · have ha : addU out x = out := by rw [addU, if_pos hc]
      rw [ha]
      simp (disch := omega) [round_eq, nxS, Tryz.f19, lv19, hd, hi, hiI, wrap_i64, has _ out hfa, hc, -getElem?_pos, -List.contains_eq_mem]
    · have hc' : out.contains x = false := by simpa using hc
      have ha : addU out x = out ++ [x] := by rw [addU, if_neg hc]
      rw [ha]
      simp (disch := omega) [round_eq, nxS, Tryz.f19, lv19, hd, hi, hiI, wrap_i64, has _ out hfa, hc', room_of, intsOf_snoc, -getElem?_pos, -List.contains_eq_mem]
  · intro out hl
    refine ⟨?_, nofun⟩
    simp (disch := omega) [round_eq, nxS, Tryz.f19, lv19, -getElem?_pos]

theorem next (h : Heap) (f : Fn) (hf : f.Ok) (he : Ended f) (k : Nat) (l : List Ins) (hl : f.blocks[k]? = some l) : CX 19 [.agg (encFn f), I (k : Nat)] h = some (Sl (intsOf (nextB l)), h, []) := by
  have q := qt19
  simp [Tryz.f19, quietFn, quietRegs] at q
  have hm := List.mem_of_getElem? hl
  have hne := he l hm
  have hlp : 0 < l.length := List.length_pos_iff.2 hne
  have hlf := hf.code l hm
  have hkl := (List.getElem?_eq_some_iff.1 hl).1
  have hb := hf.blocks
  obtain ⟨x, hx⟩ : ∃ x, l[l.length - 1]? = some x := ⟨_, List.getElem?_eq_getElem (by omega)⟩
  have hto : toB l = x.to := by unfold toB; rw [hx]
  have e := nx_loop (h ++ []) (toB l) (toB_ok hf hm)
  rw [List.append_nil, hto] at e
  have hnb : nextB l = x.to.foldl addU [] := by unfold nextB; rw [hto]
  rw [hnb]
  have hc : ((l.length : Int) - 1) = ((l.length - 1 : Nat) : Int) := by omega
  have hlt1 : l.length - 1 < l.length := by omega
  refine CI_of Tryz.func19 rfl 0 ?_
  have hk : cfg.keep 19 = 0 := rfl
  simp [nxS, lpK, lv19, Tryz.f19] at e
  simp (disch := omega) [Tryz.f19, lv19, hk, q, encFn, encIns, hl, hkl, hx, hc, hlt1, wrap_i64, e, -getElem?_pos]

def suO8 (h : Heap) (f : Fn) (k : Nat) (done : List (List Int)) : St := ⟨[(4, I (k : Nat)), (1, .one (.ptr h.length 1 0 0)), (3, .one (.sl (h.length + 1) 1 done.length 0 done.length))], h ++ [some (.row 5 [encFn f]), some (.row 1 (listsOf done))], []⟩
theorem listsOf_snoc' (ls : List (List Int)) (l : List Int) : listsOf ls ++ [[.isl (intsOf l)]] = listsOf (ls ++ [l]) := by simp [listsOf]
theorem su8_loop (h : Heap) (f : Fn) (hf : f.Ok) (he : Ended f) (hn : f.blocks.length ≤ 1000) :
    lpK 82 Tryz.f82 19 0 h (suO8 h f 0 []) = some (.exit 0, suO8 h f f.blocks.length (f.blocks.map nextB)) := by
  have key := loop_list (P := Tryz.prog) (C := cfg) (sc := runScope Tryz.prog cfg 19 h.length (cfg.live 82) 0) (N := 19) (n0 := h.length) (K := cfg.live 82) (c := loopAt Tryz.f82 0) f.blocks (fun done l => done ++ [nextB l])
    (fun i done => suO8 h f i done) (fun done => (.exit 0, suO8 h f f.blocks.length done)) (fun i done => done.length = i) ?_ ?_ [] rfl
  · have hfold : ∀ (ls : List (List Ins)) (d : List (List Int)), ls.foldl (fun done l => done ++ [nextB l]) d = d ++ ls.map nextB := by
      intro ls
      induction ls with
      | nil => intro d; simp
      | cons l ls ih => intro d; rw [List.foldl_cons, ih]; simp
    rw [hfold, List.nil_append] at key
    exact key
  · intro i done l hl hd
    subst hd
    have hi := (List.getElem?_eq_some_iff.1 hl).1
    have hiI : ((done.length : Nat) : Int) < ((f.blocks.length : Nat) : Int) := by omega
    refine ⟨?_, by simp⟩
    have e := next (h ++ [some (.row 5 [encFn f]), some (.row 1 (listsOf done))]) f hf he done.length l hl
    simp [encFn] at e
    simp (disch := omega) [round_eq, suO8, encFn, Tryz.f82, lv82, hi, hiI, e, wrap_i64, room_of, listsOf_snoc', -getElem?_pos]
  · intro done hd
    refine ⟨?_, nofun⟩
    simp (disch := omega) [round_eq, suO8, encFn, Tryz.f82, lv82, -getElem?_pos]
theorem succs8 (h : Heap) (f : Fn) (hf : f.Ok) (he : Ended f) (hn : f.blocks.length ≤ 1000) : CX 82 [.agg (encFn f)] h = some (Sl (listsOf (f.blocks.map nextB)), h, []) := by
  have e := su8_loop h f hf he hn
  refine CI_of Tryz.func82 rfl 0 ?_
  have hk : cfg.keep 82 = 0 := rfl
  simp [suO8, lpK, encFn, lv82, Tryz.f82] at e
  simp (disch := omega) [Tryz.f82, lv82, hk, encFn, e, -getElem?_pos]
end Go.Proofs.YtkbdhjfjbkmkcaaGreat.Abs

/- Calls of values; conversions between numbers. -/
set_option linter.unusedSimpArgs false
set_option linter.unusedVariables false
namespace Go.Proofs.YtkbdhjfjbkmkcaaGreat.Abs
open Go Go.RowKit Go.Proofs

def callK (P : Program) (cf : CF) (h : Heap) (vs : List V) : V → Res
  | .one (.fn g caps) => if callee P g then cf g (vs ++ caps.map V.one) h else none
  | _ => none
theorem op_callv {P : Program} {cf : CF} {slot : Option Nat} {T : Tmps} {h : Heap} {dst : Option Nat} {ty : TypeId} {pos : String} {after : Array Edge} {guard : Option (Nat × Bool)} (i : Nat) (args : Array Operand) (tys : Array TypeId) :
    absOp P cf slot T h ⟨dst, .call { callee := .value (.tmp i), args := args, argTypes := tys }, ty, pos, after, guard⟩ = callK P cf h (args.toList.map (ev T)) (tget T i) := by
  simp only [absOp, ev, callK]
  split <;> simp_all
theorem callK_fn (P : Program) (cf : CF) (h : Heap) (vs : List V) (g : FuncId) (caps : List Leaf) : callK P cf h vs (.one (.fn g caps)) = if callee P g then cf g (vs ++ caps.map V.one) h else none := rfl
theorem fzT_fn0 {h : Heap} {n0 : Nat} {L : List (Option Nat)} (f : FuncId) : fzT h n0 L (.fn f []) = some (.fn f []) := rfl
theorem ev_func {t : Tmps} (f : FuncId) : ev t (.func f) = .one (.fn f []) := rfl
attribute [simp] op_callv callK_fn fzT_fn0 ev_func

theorem conv_int {P : Program} {h : Heap} (s d : TypeId) (k : IntKind) (n : Int) : convertV P h s d (.one (.int k n)) = match P.underlying s, P.underlying d with
    | some _, some (.int k') => some (.one (.int k' (k'.wrap n)))
    | _, _ => none := by
  unfold convertV
  cases P.underlying s with
  | none => rfl
  | some a =>
    cases P.underlying d with
    | none => cases a <;> rfl
    | some b =>
      cases b <;> cases a <;> try rfl
      rename_i e
      simp only [view, Option.bind_none]
      split <;> first | rfl | (split <;> rfl)
attribute [simp] conv_int
end Go.Proofs.YtkbdhjfjbkmkcaaGreat.Abs

/- What a call does to an object of its caller's: a heap with one object told anew. Bytes. -/
set_option linter.unusedSimpArgs false
set_option linter.unusedVariables false
namespace Go.Proofs.YtkbdhjfjbkmkcaaGreat.Abs
open Go Go.RowKit Go.Proofs

def nilK : V → Option V
  | .one (.ptr a b c d) => some (.one (.ptr a b c d))
  | .one (.iptr a b) => some (.one (.iptr a b))
  | .one (.fn a b) => some (.one (.fn a b))
  | _ => none
@[simp] theorem op_nilCheck {P : Program} {cf : CF} {slot : Option Nat} {T : Tmps} {h : Heap} {dst : Option Nat} {ty : TypeId} {pos : String} {after : Array Edge} {guard : Option (Nat × Bool)} (x : Operand) :
    absOp P cf slot T h ⟨dst, .nilCheck x, ty, pos, after, guard⟩ = pureR h (nilK (ev T x)) := by
  simp only [absOp, nilK]
  split <;> simp_all [pureR]
attribute [simp] nilK

def updH (h : Heap) (k z : Nat) (es : List (List Leaf)) : Heap := h.set k (some (.row z es))
section
variable {h t : Heap} {k z : Nat} {es : List (List Leaf)}
@[simp] theorem upd_length : (updH h k z es).length = h.length := by simp [updH]
@[simp] theorem upd_get (hk : k < h.length) : (updH h k z es)[k]? = some (some (.row z es)) := by simp [updH, hk]
@[simp] theorem upd_get' (hk : k < h.length) : (updH h k z es ++ t)[k]? = some (some (.row z es)) := by
  rw [List.getElem?_append_left (by simpa using hk), upd_get hk]
@[simp] theorem upd_row (hk : k < h.length) (sz : Nat) : rowAt (updH h k z es) k sz = if es.length = sz then some (z, es) else none := by
  simp [rowAt, upd_get hk]
@[simp] theorem upd_row' (hk : k < h.length) (sz : Nat) : rowAt (updH h k z es ++ t) k sz = if es.length = sz then some (z, es) else none := by
  simp [rowAt, upd_get' hk]
@[simp] theorem upd_at0 : (updH h k z es ++ t)[h.length]? = nthO t 0 := by
  have := heap_at0 (h := updH h k z es) (t := t); rwa [upd_length] at this
@[simp] theorem upd_at (j : Nat) : (updH h k z es ++ t)[h.length + j]? = nthO t j := by
  have := heap_at (h := updH h k z es) (t := t) j; rwa [upd_length] at this
@[simp] theorem upd_row_at0 (sz : Nat) : rowAt (updH h k z es ++ t) h.length sz = rowAt t 0 sz := by
  have := row_at0 (h := updH h k z es) (t := t) sz; rwa [upd_length] at this
@[simp] theorem upd_row_at (j sz : Nat) : rowAt (updH h k z es ++ t) (h.length + j) sz = rowAt t j sz := by
  have := row_at (h := updH h k z es) (t := t) j sz; rwa [upd_length] at this
@[simp] theorem upd_set (z' : Nat) (es' : List (List Leaf)) : (updH h k z es).set k (some (.row z' es')) = updH h k z' es' := by
  simp [updH, List.set_set]
@[simp] theorem upd_set' (hk : k < h.length) (z' : Nat) (es' : List (List Leaf)) : (updH h k z es ++ t).set k (some (.row z' es')) = updH h k z' es' ++ t := by
  rw [List.set_append_left _ _ (by simpa using hk), upd_set]
@[simp] theorem upd_set_at0 (o : Option AO) : (updH h k z es ++ t).set h.length o = updH h k z es ++ t.set 0 o := by
  have := set_at0 (h := updH h k z es) (t := t) o; rwa [upd_length] at this
@[simp] theorem upd_set_at (j : Nat) (o : Option AO) : (updH h k z es ++ t).set (h.length + j) o = updH h k z es ++ t.set j o := by
  have := set_at (h := updH h k z es) (t := t) j o; rwa [upd_length] at this
@[simp] theorem upd_take0 : (updH h k z es).take h.length = updH h k z es := by
  rw [List.take_of_length_le (by simp)]
@[simp] theorem upd_take : (updH h k z es ++ t).take h.length = updH h k z es := by
  have := List.take_left (l₁ := updH h k z es) (l₂ := t); rwa [upd_length] at this
end

@[simp] theorem fzH_cons {h : Heap} {n0 : Nat} {L : List (Option Nat)} (id : Nat) (ids : List Nat) (acc : Heap) : fzH h n0 L (id :: ids) acc = (objK h n0 L h[id]?).bind fun o => fzH h n0 L ids (acc.set id o) := by
  rw [fzH]
  cases h[id]? with
  | none => rfl
  | some o => cases o with
    | none => rfl
    | some o => cases o with
      | row z es => simp only [objK, fzO, ← rows_eq]; cases mapO (mapO (fzT h n0 L)) es <;> rfl
      | mp ck es => simp only [objK]; cases fzO h n0 L (.mp ck es) <;> rfl

@[simp] theorem wsOf_one {n0 k : Nat} (hk : k < n0) : wsOf n0 [k] = [k] := by
  simp [wsOf, hk, List.eraseDups_cons]
@[simp] theorem wsOf_dup {n0 k : Nat} (ws : List Nat) : wsOf n0 (k :: k :: ws) = wsOf n0 (k :: ws) := by
  unfold wsOf
  by_cases hk : k < n0
  · simp [hk, List.eraseDups_cons]
  · simp [hk]
@[simp] theorem wsOf_skip {n0 k i : Nat} (ws : List Nat) (hi : n0 ≤ i) : wsOf n0 (k :: i :: ws) = wsOf n0 (k :: ws) := by
  unfold wsOf
  by_cases hk : k < n0
  · simp [hk, show ¬ i < n0 by omega]
  · simp [hk, show ¬ i < n0 by omega]

@[simp] theorem dups_nil {α : Type} [BEq α] : ([] : List α).eraseDups = [] := rfl
@[simp] theorem dups_one {α : Type} [BEq α] (a : α) : [a].eraseDups = [a] := by simp [List.eraseDups_cons]

def deInts (es : List (List Leaf)) : List Int := es.map fun c => match c with
  | [.int _ n] => n
  | _ => 0
@[simp] theorem deInts_ints (xs : List Int) : deInts (intsOf xs) = xs := by
  unfold deInts intsOf
  rw [List.map_map]
  exact (List.map_congr_left fun _ _ => rfl).trans (List.map_id _)

def u8sOf (xs : List Int) : List (List Leaf) := xs.map fun n => [.int .u8 n]
@[simp] theorem u8sOf_length (xs : List Int) : (u8sOf xs).length = xs.length := by simp [u8sOf]
@[simp] theorem u8sOf_get (xs : List Int) (i : Nat) : (u8sOf xs)[i]? = (xs[i]?).map fun n => [.int .u8 n] := by simp [u8sOf]
@[simp] theorem u8sOf_plain (xs : List Int) : plainR (u8sOf xs) = true := plainR_map (fun _ => rfl) xs
@[simp] theorem u8sOf_tree (xs : List Int) : treeR (u8sOf xs) = true := treeR_map (fun _ => rfl) xs
@[simp] theorem u8sOf_nil : u8sOf [] = [] := rfl
@[simp] theorem sized_bytes (xs : List Int) : sized 1 (u8sOf xs) = true := sized_map (n := 1) (f := fun n => [.int .u8 n]) (fun _ => rfl) xs

end Go.Proofs.YtkbdhjfjbkmkcaaGreat.Abs

/- A walk through blocks: what it works on is its caller's. -/
set_option linter.unusedSimpArgs false
set_option linter.unusedVariables false
namespace Go.Proofs.YtkbdhjfjbkmkcaaGreat.Abs
open Go Go.RowKit Go.Proofs

def boolsOf (bs : List Bool) : List (List Leaf) := bs.map fun b => [.bool b]
@[simp] theorem boolsOf_length (bs : List Bool) : (boolsOf bs).length = bs.length := by simp [boolsOf]
@[simp] theorem boolsOf_get (bs : List Bool) (i : Nat) : (boolsOf bs)[i]? = (bs[i]?).map fun b => [.bool b] := by simp [boolsOf]
@[simp] theorem boolsOf_plain (bs : List Bool) : plainR (boolsOf bs) = true := plainR_map (fun _ => rfl) bs
@[simp] theorem boolsOf_tree (bs : List Bool) : treeR (boolsOf bs) = true := treeR_map (fun _ => rfl) bs
@[simp] theorem sized_bools (bs : List Bool) : sized 1 (boolsOf bs) = true := sized_map (n := 1) (f := fun b : Bool => [Leaf.bool b]) (fun _ => rfl) bs
def stL (n0 : Nat) : Leaf → Bool
  | .ptr id _ _ _ => decide (id < n0)
  | .sl id _ _ _ _ => decide (id < n0)
  | .map id => decide (id < n0)
  | .fn _ caps => caps.all treeL
  | _ => true
@[simp] theorem stL_int (n0 : Nat) (k : IntKind) (n : Int) : stL n0 (.int k n) = true := rfl
@[simp] theorem stL_bool (n0 : Nat) (b : Bool) : stL n0 (.bool b) = true := rfl
@[simp] theorem stL_isl (n0 : Nat) (es : List (List Leaf)) : stL n0 (.isl es) = true := rfl
@[simp] theorem stL_iptr (n0 : Nat) (cs : List Leaf) (o : Nat) : stL n0 (.iptr cs o) = true := rfl
@[simp] theorem stL_ptr (n0 id sz i off : Nat) : stL n0 (.ptr id sz i off) = decide (id < n0) := rfl
@[simp] theorem stL_sl (n0 id s sz off len : Nat) : stL n0 (.sl id s sz off len) = decide (id < n0) := rfl
end Go.Proofs.YtkbdhjfjbkmkcaaGreat.Abs

/- Who is reached along edges, not by way of one. -/
set_option linter.unusedSimpArgs false
set_option linter.unusedVariables false
namespace Go.Proofs.YtkbdhjfjbkmkcaaGreat.Abs
open Go Go.RowKit Go.Proofs

def unmet (met : List Bool) : Nat := met.count false
theorem unmet_set {met : List Bool} {v : Nat} (h : met[v]? = some false) : unmet (met.set v true) + 1 = unmet met := by
  unfold unmet
  induction met generalizing v with
  | nil => simp at h
  | cons b bs ih =>
    cases v with
    | zero => simp at h; subst h; simp
    | succ v =>
      simp at h
      have := ih h
      simp only [List.set_cons_succ, List.count_cons]
      omega
inductive Rch (E : List (List Int)) (from_ : List Int) (but : Int) : Nat → Prop
  | start {v : Nat} (h : (v : Int) ∈ from_) (hb : (v : Int) ≠ but) : Rch E from_ but v
  | step {k w : Nat} (hk : Rch E from_ but k) (hw : (w : Int) ∈ E.getD k []) (hb : (w : Int) ≠ but) : Rch E from_ but w

theorem Rch.any {E : List (List Int)} {l : List Int} {but : Int} {v : Nat} (h : Rch E l but v) : Rch E l (-1) v := by
  induction h with
  | start h _ => exact .start h (by omega)
  | step _ hw _ ih => exact .step ih hw (by omega)

theorem unmet_all (n : Nat) : unmet (List.replicate n false) = n := by simp [unmet]
end Go.Proofs.YtkbdhjfjbkmkcaaGreat.Abs

/- Who is reached from some, in rounds: what is kept. -/
set_option linter.unusedSimpArgs false
set_option linter.unusedVariables false
namespace Go.Proofs.YtkbdhjfjbkmkcaaGreat.Abs
open Go Go.RowKit Go.Proofs

def Mt (met : List Bool) (v : Nat) : Prop := met[v]? = some true
def Cl (E : List (List Int)) (but : Int) (met : List Bool) (k : Nat) : Prop := ∀ w, w ∈ E.getD k [] → w ≠ but → Mt met w.toNat
theorem mt_set {met : List Bool} {b v : Nat} (hb : b < met.length) : Mt (met.set b true) v ↔ v = b ∨ Mt met v := by
  unfold Mt
  rw [List.getElem?_set]
  by_cases e : b = v
  · subst e; simp [hb]
  · rw [if_neg e]
    exact ⟨.inr, fun h => h.resolve_left fun h' => e h'.symm⟩
theorem Cl.set {E : List (List Int)} {but : Int} {met : List Bool} {b k : Nat} (hb : b < met.length) (h : Cl E but met k) : Cl E but (met.set b true) k := fun w hw hn => (mt_set hb).2 (.inr (h w hw hn))
theorem unmet_set' {met : List Bool} {b : Nat} (hb : b < met.length) (h : ¬ Mt met b) : unmet (met.set b true) + 1 = unmet met := by
  refine unmet_set ?_
  unfold Mt at h
  rw [List.getElem?_eq_getElem hb] at h ⊢
  cases hx : met[b]
  · rfl
  · rw [hx] at h; exact absurd rfl h

structure RI (n : Nat) (E : List (List Int)) (from_ : List Int) (but : Int) (met : List Bool) (Q : Nat → Prop) : Prop where
  len : met.length = n
  sound : ∀ v, Mt met v → Rch E from_ but v
  clo : ∀ v, Mt met v → Q v ∨ Cl E but met v
theorem RI.mono {n : Nat} {E : List (List Int)} {from_ : List Int} {but : Int} {met : List Bool} {Q Q' : Nat → Prop} (h : RI n E from_ but met Q) (hq : ∀ v, Q v → Q' v ∨ Cl E but met v) : RI n E from_ but met Q' :=
  ⟨h.len, h.sound, fun v hv => by
    rcases h.clo v hv with h1 | h1
    · exact hq v h1
    · exact .inr h1⟩
theorem RI.set {n : Nat} {E : List (List Int)} {from_ : List Int} {but : Int} {met : List Bool} {Q : Nat → Prop} (h : RI n E from_ but met Q) {b : Nat} (hb : b < n) (hr : Rch E from_ but b) : RI n E from_ but (met.set b true) (fun v => Q v ∨ v = b) := by
  have hl := h.len
  refine ⟨by simpa using hl, fun v hv => ?_, fun v hv => ?_⟩
  · rcases (mt_set (by omega)).1 hv with e | hv
    · rw [e]; exact hr
    · exact h.sound v hv
  · rcases (mt_set (by omega)).1 hv with e | hv
    · exact .inl (.inr e)
    · rcases h.clo v hv with h1 | h1
      · exact .inl (.inl h1)
      · exact .inr (h1.set (by omega))
theorem RI.all {n : Nat} {E : List (List Int)} {from_ : List Int} {but : Int} {met : List Bool} (h : RI n E from_ but met (fun _ => False)) (hf : ∀ k, k ∈ from_ → k ≠ but → Mt met k.toNat) (v : Nat) : Mt met v ↔ Rch E from_ but v := by
  refine ⟨h.sound v, fun hr => ?_⟩
  induction hr with
  | start h' hb =>
    have := hf _ h' hb
    rwa [Int.toNat_natCast] at this
  | step hk hw hb ih =>
    rcases h.clo _ ih with h1 | h1
    · exact h1.elim
    · have := h1 _ hw hb
      rwa [Int.toNat_natCast] at this
def OpOK (E : List (List Int)) (from_ : List Int) (but : Int) (op : List Int) : Prop := ∀ x, x ∈ op → 0 ≤ x ∧ x < E.length ∧ Rch E from_ but x.toNat
end Go.Proofs.YtkbdhjfjbkmkcaaGreat.Abs
