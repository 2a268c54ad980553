/- The abstract machine, step by step: equations by which simp runs it on named values. -/
import Derived.Test.YtkbdhjfjbkmkcaaGreatJT27
set_option linter.unusedSimpArgs false
set_option linter.unusedVariables false
namespace Go.Proofs.YtkbdhjfjbkmkcaaGreat.Abs
open Go Go.RowKit

section
variable (P : Program) (C : Cfg) (sc : Code → Code → St → CR) (N n0 : Nat) (K : List (Nat × Kd))

noncomputable def seqK (b : Code) : CR → CR
  | some (.normal, s) => run P C sc N n0 K b s
  | r => r

def blockK (id : Nat) : CR → CR
  | some (.exit i, s) => if i = id then some (.normal, s) else some (.exit i, s)
  | r => r

noncomputable def condK (a b : Code) (s : St) : V → CR
  | .one (.bool true) => run P C sc N n0 K a s
  | .one (.bool false) => run P C sc N n0 K b s
  | _ => none

noncomputable def round (c : Code) (s : St) : CR := tidyR n0 K (run P C sc N n0 K c s)
noncomputable def loopK (c : Code) (s : St) : CR := iterI (round P C sc N n0 K c) s

def regionK : Option St → CR
  | some s => some (.normal, s)
  | none => none

def atRK (id : Nat) : Bool → CR → CR
  | true, some (x, s) => some (x, tidy n0 K ⟨killT id K s.tmps, s.heap, s.ws⟩)
  | _, r => r
def isR (id : Nat) : Kd → Bool
  | .r i => i == id
  | .x i => i == id
  | _ => false

def endR (T : Tmps) : CR → CR
  | some (.normal, s) => some (.normal, tidy n0 K ⟨T, s.heap, s.ws⟩)
  | some (y, s) => some (y, ⟨T, s.heap, s.ws⟩)
  | none => none
noncomputable def bodyR (body : Code) (T : Tmps) : CR → CR
  | some (.normal, s) => endR n0 K T (run P C sc N n0 K body s)
  | _ => none
noncomputable def roundB (ps : List Nat) (as body : Code) : List V → St → CR := roundR N n0 K ps (fun s => run P C sc N n0 K as s) fun s => run P C sc N n0 K body s
noncomputable def rangeL (ps : List Nat) (as body : Code) (xs : List (List V)) (s : St) : CR := rangeGo (roundB P C sc N n0 K ps as body) xs s
noncomputable def rangeK (ps : List Nat) (as body : Code) (s : St) : Option (List (List V)) → CR
  | some xs => rangeL P C sc N n0 K ps as body xs (tidy n0 K s)
  | none => none

def scopeK (c : Code) : CR → CR
  | some (.goto l, s) => match findLabel c l with
    | some rest => sc c rest s
    | none => some (.goto l, s)
  | r => r

noncomputable def drawK (ops : Array Oper) (s : St) : Option St := absDraw P (CIR P C) N ops s

noncomputable def opK (ops : Array Oper) (l : List Oper) (dst : Option Nat) (t : Tmps) (ws : List Nat) : Res → Option St
  | some (v, h', ws') => absOps P (CIR P C) N ops l ⟨setD N t dst v, h', ws ++ ws'⟩
  | none => none

theorem run_skip (s : St) : run P C sc N n0 K .skip s = some (.normal, s) := rfl
theorem run_seq (a b : Code) (s : St) : run P C sc N n0 K (.seq a b) s = seqK P C sc N n0 K b (run P C sc N n0 K a s) := by
  simp only [run, seqK]; rfl
theorem run_region (id : Nat) (ops : Array Oper) (s : St) : run P C sc N n0 K (.region id ops false) s = atRK n0 K id (hasR id K) (regionK (absOps P (CIR P C) N ops ops.toList s)) := by
  simp only [run]; cases absOps P (CIR P C) N ops ops.toList s with
  | none => cases hasR id K <;> rfl
  | some s1 => unfold atR; cases hasR id K <;> rfl
theorem run_draw (id : Nat) (ops : Array Oper) (s : St) : run P C sc N n0 K (.region id ops true) s = atRK n0 K id (hasR id K) (regionK (drawK P C N ops s)) := by
  simp only [run, drawK]; cases absDraw P (CIR P C) N ops s with
  | none => cases hasR id K <;> rfl
  | some s1 => unfold atR; cases hasR id K <;> rfl
theorem run_cond (c : Operand) (a b : Code) (t : Tmps) (h : Heap) (ws : List Nat) : run P C sc N n0 K (.cond c a b) ⟨t, h, ws⟩ = condK P C sc N n0 K a b ⟨t, h, ws⟩ (ev t c) := by
  simp only [run, condK]; rfl
theorem run_block (id : Nat) (c : Code) (s : St) : run P C sc N n0 K (.block id c) s = blockK id (run P C sc N n0 K c s) := by
  simp only [run, blockK]; rfl
theorem run_loop (c : Code) (s : St) : run P C sc N n0 K (.loop c) s = loopK P C sc N n0 K c (tidy n0 K s) := rfl
theorem run_exit (id : Nat) (s : St) : run P C sc N n0 K (.exit id) s = some (.exit id, s) := rfl
theorem run_ret (s : St) : run P C sc N n0 K .ret s = some (.ret, s) := rfl
theorem run_label (l : Nat) (s : St) : run P C sc N n0 K (.label l) s = some (.normal, s) := rfl
theorem run_goto (l : Nat) (s : St) : run P C sc N n0 K (.goto l) s = some (.goto l, s) := rfl
theorem run_scope (c : Code) (s : St) : run P C sc N n0 K (.scope c) s = scopeK sc c (run P C sc N n0 K c s) := by
  simp only [run, scopeK]; rfl

theorem run_rangeFunc (g : Operand) (ps : Array Nat) (as body : Code) (t : Tmps) (h : Heap) (ws : List Nat) : run P C sc N n0 K (.rangeFunc g ps as body) ⟨t, h, ws⟩ =
    rangeK P C sc N n0 K ps.toList as body ⟨t, h, ws⟩ (rangeOf P K (ps.size == 2 && flatC K as && flatC K body) (ev t g)) := by
  simp only [run, rangeK]
  cases rangeOf P K (ps.size == 2 && flatC K as && flatC K body) (ev t g) <;> rfl
theorem rangeK_some (ps : List Nat) (as body : Code) (s : St) (xs : List (List V)) : rangeK P C sc N n0 K ps as body s (some xs) = rangeL P C sc N n0 K ps as body xs (tidy n0 K s) := rfl
theorem bodyR_normal (body : Code) (T : Tmps) (s : St) : bodyR P C sc N n0 K body T (some (.normal, s)) = endR n0 K T (run P C sc N n0 K body s) := rfl
theorem endR_normal (T T2 : Tmps) (h : Heap) (ws : List Nat) : endR n0 K T (some (.normal, ⟨T2, h, ws⟩)) = some (.normal, tidy n0 K ⟨T, h, ws⟩) := rfl
theorem endR_exit (T T2 : Tmps) (h : Heap) (ws : List Nat) (i : Nat) : endR n0 K T (some (.exit i, ⟨T2, h, ws⟩)) = some (.exit i, ⟨T, h, ws⟩) := rfl
theorem endR_ret (T T2 : Tmps) (h : Heap) (ws : List Nat) : endR n0 K T (some (.ret, ⟨T2, h, ws⟩)) = some (.ret, ⟨T, h, ws⟩) := rfl
theorem setAll_cons (p : Nat) (ps : List Nat) (v : V) (vs : List V) (t : Tmps) : setAll N (p :: ps) (v :: vs) t = setAll N ps vs (setD N t (some p) v) := rfl
theorem setAll_nil (t : Tmps) : setAll N [] [] t = t := rfl
theorem seqK_normal (b : Code) (s : St) : seqK P C sc N n0 K b (some (.normal, s)) = run P C sc N n0 K b s := rfl
theorem seqK_exit (b : Code) (i : Nat) (s : St) : seqK P C sc N n0 K b (some (.exit i, s)) = some (.exit i, s) := rfl
theorem seqK_goto (b : Code) (i : Nat) (s : St) : seqK P C sc N n0 K b (some (.goto i, s)) = some (.goto i, s) := rfl
theorem seqK_ret (b : Code) (s : St) : seqK P C sc N n0 K b (some (.ret, s)) = some (.ret, s) := rfl
theorem blockK_normal (id : Nat) (s : St) : blockK id (some (.normal, s)) = some (.normal, s) := rfl
theorem blockK_ret (id : Nat) (s : St) : blockK id (some (.ret, s)) = some (.ret, s) := rfl
theorem blockK_goto (id i : Nat) (s : St) : blockK id (some (.goto i, s)) = some (.goto i, s) := rfl
theorem blockK_exit (id i : Nat) (s : St) : blockK id (some (.exit i, s)) = if i = id then some (.normal, s) else some (.exit i, s) := rfl
theorem condK_true (a b : Code) (s : St) : condK P C sc N n0 K a b s (.one (.bool true)) = run P C sc N n0 K a s := rfl
theorem condK_false (a b : Code) (s : St) : condK P C sc N n0 K a b s (.one (.bool false)) = run P C sc N n0 K b s := rfl
theorem hasR_nil (id : Nat) : hasR id [] = false := rfl
theorem hasR_cons (id i : Nat) (k : Kd) (K : List (Nat × Kd)) : hasR id ((i, k) :: K) = (isR id k || hasR id K) := by
  simp only [hasR, isR]; cases k <;> rfl
theorem isR_p (id : Nat) : isR id .p = false := rfl
theorem isR_s (id e : Nat) (ks : List Nat) : isR id (.s e ks) = false := rfl
theorem isR_b (id : Nat) (ks : List Nat) : isR id (.b ks) = false := rfl
theorem isR_b2 (id : Nat) (ks : List (Nat × List Nat)) : isR id (.b2 ks) = false := rfl
theorem isR_m (id : Nat) : isR id .m = false := rfl
theorem isR_r (id i : Nat) : isR id (.r i) = (i == id) := rfl
theorem isR_it (id : Nat) (b : BW) : isR id (.it b) = false := rfl
theorem isR_x (id i : Nat) : isR id (.x i) = (i == id) := rfl
theorem killT_nil (id : Nat) (T : Tmps) : killT id [] T = T := rfl
theorem killT_p (id i : Nat) (K : List (Nat × Kd)) (T : Tmps) : killT id ((i, .p) :: K) T = killT id K T := rfl
theorem killT_s (id i e : Nat) (ks : List Nat) (K : List (Nat × Kd)) (T : Tmps) : killT id ((i, .s e ks) :: K) T = killT id K T := rfl
theorem killT_b (id i : Nat) (ks : List Nat) (K : List (Nat × Kd)) (T : Tmps) : killT id ((i, .b ks) :: K) T = killT id K T := rfl
theorem killT_b2 (id i : Nat) (ks : List (Nat × List Nat)) (K : List (Nat × Kd)) (T : Tmps) : killT id ((i, .b2 ks) :: K) T = killT id K T := rfl
theorem killT_m (id i : Nat) (K : List (Nat × Kd)) (T : Tmps) : killT id ((i, .m) :: K) T = killT id K T := rfl
theorem killT_r (id i j : Nat) (K : List (Nat × Kd)) (T : Tmps) : killT id ((i, .r j) :: K) T = killT id K T := rfl
theorem killT_it (id i : Nat) (b : BW) (K : List (Nat × Kd)) (T : Tmps) : killT id ((i, .it b) :: K) T = killT id K T := rfl
theorem killT_x (id i j : Nat) (K : List (Nat × Kd)) (T : Tmps) : killT id ((i, .x j) :: K) T = if j == id then (i - 1000, .junk) :: killT id K T else killT id K T := rfl
theorem atRK_false (id : Nat) (r : CR) : atRK n0 K id false r = r := rfl
theorem atRK_true (id : Nat) (x : AX) (T : Tmps) (h : Heap) (ws : List Nat) : atRK n0 K id true (some (x, ⟨T, h, ws⟩)) = some (x, tidy n0 K ⟨killT id K T, h, ws⟩) := rfl
theorem regionK_some (s : St) : regionK (some s) = some (.normal, s) := rfl
theorem round_eq (c : Code) (s : St) : round P C sc N n0 K c s = tidyR n0 K (run P C sc N n0 K c s) := rfl
theorem tidyR_some_eq (x : AX) (s : St) : tidyR n0 K (some (x, s)) = some (x, tidy n0 K s) := rfl
theorem scopeK_normal (c : Code) (s : St) : scopeK sc c (some (.normal, s)) = some (.normal, s) := rfl
theorem scopeK_ret (c : Code) (s : St) : scopeK sc c (some (.ret, s)) = some (.ret, s) := rfl
theorem scopeK_exit (c : Code) (i : Nat) (s : St) : scopeK sc c (some (.exit i, s)) = some (.exit i, s) := rfl

theorem ops_nil (ops : Array Oper) (s : St) : absOps P (CIR P C) N ops [] s = some s := rfl
theorem ops_cons (ops : Array Oper) (l : List Oper) (dst : Option Nat) (op : Op) (ty : TypeId) (pos : String) (after : Array Edge) (t : Tmps) (h : Heap) (ws : List Nat) :
    absOps P (CIR P C) N ops (⟨dst, op, ty, pos, after, none⟩ :: l) ⟨t, h, ws⟩ = opK P C N ops l dst t ws (absOp P (CIR P C) none t h ⟨dst, op, ty, pos, after, none⟩) := by
  unfold absOps
  simp only [wantedA, opK]
  cases absOp P (CIR P C) none t h ⟨dst, op, ty, pos, after, none⟩ with
  | none => rfl
  | some r => obtain ⟨v, h', ws'⟩ := r; rfl
theorem opK_some (ops : Array Oper) (l : List Oper) (dst : Option Nat) (t : Tmps) (ws ws' : List Nat) (v : V) (h' : Heap) : opK P C N ops l dst t ws (some (v, h', ws')) = absOps P (CIR P C) N ops l ⟨setD N t dst v, h', ws ++ ws'⟩ := rfl
end

section
variable {P : Program} {cf : CF} {slot : Option Nat} {t : Tmps} {h : Heap} {dst : Option Nat} {ty : TypeId} {pos : String} {after : Array Edge} {guard : Option (Nat × Bool)}

theorem op_move (x : Operand) : absOp P cf slot t h ⟨dst, .move x, ty, pos, after, guard⟩ = some (ev t x, h, []) := rfl
theorem op_assign (x : Operand) : absOp P cf slot t h ⟨dst, .assign x, ty, pos, after, guard⟩ = some (ev t x, h, []) := rfl
theorem op_bin (o : BinOp) (a : TypeId) (x y : Operand) (b : TypeId) : absOp P cf slot t h ⟨dst, .binOp o a x y b, ty, pos, after, guard⟩ = pureR h (binV P o a (ev t x) (ev t y)) := rfl
theorem op_un (o : UnOp) (a : TypeId) (x : Operand) : absOp P cf slot t h ⟨dst, .unOp o a x, ty, pos, after, guard⟩ = pureR h (unV o (ev t x)) := rfl
theorem op_convert (a b : TypeId) (x : Operand) : absOp P cf slot t h ⟨dst, .convert a b x, ty, pos, after, guard⟩ = pureR h (convertV P h a b (ev t x)) := rfl
theorem op_indexAddr (a : TypeId) (x y : Operand) : absOp P cf slot t h ⟨dst, .indexAddr a x y, ty, pos, after, guard⟩ = pureR h (indexAddrV P a (ev t x) (ev t y)) := rfl
theorem op_index (a : TypeId) (x y : Operand) : absOp P cf slot t h ⟨dst, .index a x y, ty, pos, after, guard⟩ = pureR h (indexV P a (ev t x) (ev t y)) := rfl
theorem op_fieldAddr (a : TypeId) (x : Operand) (f : Nat) : absOp P cf slot t h ⟨dst, .fieldAddr a x f, ty, pos, after, guard⟩ = pureR h (fieldAddrV P a (ev t x) f) := rfl

def fieldK (P : Program) (a : TypeId) (f : Nat) : V → Option V
  | .agg cs => (fieldOf P a f).bind fun fd => partV P fd.type cs fd.offset
  | _ => none
theorem op_field (a : TypeId) (x : Operand) (f : Nat) : absOp P cf slot t h ⟨dst, .field a x f, ty, pos, after, guard⟩ = pureR h (fieldK P a f (ev t x)) := by
  simp only [absOp, fieldK]
  split <;> simp_all [pureR]
def loadK (P : Program) (a : TypeId) (h : Heap) : V → Option V
  | .one l => (tagg P a).bind fun g => (tsize P a).bind fun n => (rd h l n).bind fun cs => mkV g cs
  | _ => none
theorem op_load (a : TypeId) (x : Operand) : absOp P cf slot t h ⟨dst, .load a x, ty, pos, after, guard⟩ = pureR h (loadK P a h (ev t x)) := by
  simp only [absOp, loadK]
  split
  · rename_i l hl
    simp only [hl]
    cases tagg P a with
    | none => rfl
    | some g =>
      cases tsize P a with
      | none => rfl
      | some n =>
        simp only [Option.bind_some]
        cases rd h l n <;> rfl
  · rename_i hn
    split
    · rename_i l hl; exact (hn l hl).elim
    · rfl
def lenK (P : Program) (a : TypeId) (h : Heap) : V → Option V
  | .one l => if lenOK P a l then (lenL h l).map fun (n : Nat) => V.one (.int .i64 (n : Int)) else none
  | _ => none
theorem op_len (x : Operand) (a : TypeId) : absOp P cf slot t h ⟨dst, .call { callee := .builtin .len, args := #[x], argTypes := #[a] }, ty, pos, after, guard⟩ = pureR h (lenK P a h (ev t x)) := by
  simp only [absOp, lenK]
  split
  · rename_i l hl
    simp only [hl]
    split <;> rfl
  · rename_i hn
    split
    · rename_i l hl; exact (hn l hl).elim
    · rfl
theorem op_append (x y : Operand) (a b : TypeId) : absOp P cf slot t h ⟨dst, .call { callee := .builtin .append, args := #[x, y], argTypes := #[a, b] }, ty, pos, after, guard⟩ = appendV P slot h a b (ev t x) (ev t y) := rfl
theorem op_call (f : FuncId) (args : Array Operand) (tys : Array TypeId) : absOp P cf slot t h ⟨dst, .call { callee := .value (.func f), args := args, argTypes := tys }, ty, pos, after, guard⟩ = if callee P f then cf f (args.toList.map (ev t)) h else none := by
  simp only [absOp, ev, List.map_nil, List.append_nil]
theorem pureR_one (h : Heap) (v : V) : pureR h (some v) = some (v, h, []) := rfl

theorem ev_tmp (i : Nat) : ev t (.tmp i) = tget t i := rfl
theorem ev_const (v : Value) : ev t (.const v) = ofConstV v := rfl
theorem set_some (N : Nat) (d : Nat) (v : V) : setD N t (some d) v = if d < N then (d, v) :: t else t := rfl
theorem set_none (N : Nat) (v : V) : setD N t none v = t := rfl
end

noncomputable def readK (P : Program) (C : Cfg) (f : FuncId) (h : Heap) : Option (List V) → Option (V × Heap × List Nat)
  | some as => CI P C f as []
  | none => none
def backK (h : Heap) : Option (V × Heap × List Nat) → Option (V × Heap × List Nat)
  | some r => if scalarV r.1 then some (r.1, h, []) else none
  | none => none
theorem cir_call {P : Program} {C : Cfg} (f : FuncId) (args : List V) (h : Heap) : CIR P C f args h = if C.read f = true then backK h (readK P C f h (mapO (fzV h 0 []) args)) else CI P C f args h := by
  rw [CIR_eq]
  split
  · cases mapO (fzV h 0 []) args with
    | none => rfl
    | some as =>
      simp only [readK]
      cases CI P C f as [] with
      | none => rfl
      | some r => rfl
  · rfl
theorem readK_some {P : Program} {C : Cfg} (f : FuncId) (h : Heap) (as : List V) : readK P C f h (some as) = CI P C f as [] := rfl
theorem backK_some (h h1 : Heap) (v : V) (ws : List Nat) : backK h (some (v, h1, ws)) = if scalarV v then some (v, h, []) else none := rfl

theorem finish_ret {P : Program} {C : Cfg} {f : FuncId} {rs : List ResultVar} {n0 : Nat} (t : Tmps) (h : Heap) (ws : List Nat) : finish P C f rs n0 (some (.ret, ⟨t, h, ws⟩)) = match resOf P t h rs with
    | some vs => some (wrapUp (C.keep f) n0 (resV vs) h ws)
    | none => none := rfl
theorem finish_normal {P : Program} {C : Cfg} {f : FuncId} {rs : List ResultVar} {n0 : Nat} (t : Tmps) (h : Heap) (ws : List Nat) : finish P C f rs n0 (some (.normal, ⟨t, h, ws⟩)) = match resOf P t h rs with
    | some vs => some (wrapUp (C.keep f) n0 (resV vs) h ws)
    | none => none := rfl
end Go.Proofs.YtkbdhjfjbkmkcaaGreat.Abs
