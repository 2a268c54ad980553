/- The abstract machine: slices.Clone hands back what it is given, nil or not. -/
import Derived.Test.YtdkknhpdjcdmfaaJD34
set_option linter.unusedSimpArgs false
set_option linter.unusedVariables false
namespace Go.Proofs.Ytdkknhpdjcdmfaa.Abs
open Go Go.RowKit

def clOps0 (S : TypeId) : Array Oper := #[⟨some 2, .assign (.const (.slice none 0 0)), S, "slices.go:355", #[], none⟩]
def clOpM (S : TypeId) : Oper := ⟨some 3, .move (.tmp 0), S, "slices.go:357", #[], none⟩
def clOpE (S B : TypeId) : Oper := ⟨some 4, .binOp .eql S (.tmp 3) (.const (.slice none 0 0)) S, B, "slices.go:357", #[{ on := 0, ground := .data }], none⟩
def clOps1 (S B : TypeId) : Array Oper := #[clOpM S, clOpE S B]
def clOps2 (S : TypeId) : Array Oper := #[⟨some 2, .assign (.const (.slice none 0 0)), S, "slices.go:358", #[], none⟩]
def clOps3 (S : TypeId) : Array Oper := #[⟨some 5, .buildSlice S 0 #[], S, "slices.go:362", #[], none⟩, ⟨some 6, .move (.tmp 0), S, "slices.go:362", #[], none⟩,
  ⟨some 7, .call { callee := .builtin .append, args := #[.tmp 5, .tmp 6], argTypes := #[S, S] }, S, "slices.go:362", #[{ on := 0, ground := .data }, { on := 1, ground := .data }], none⟩,
  ⟨some 2, .assign (.tmp 7), S, "slices.go:362", #[{ on := 2, ground := .data }, { on := 2, ground := .chain }, { on := 0, ground := .phase }, { on := 1, ground := .phase }, { on := 2, ground := .phase }], none⟩]
def clBody (S B : TypeId) : Code := .seq (.region 0 (clOps0 S) false) (.seq (.seq (.region 1 (clOps1 S B) false) (.cond (.tmp 4) (.seq (.region 2 (clOps2 S) false) .ret) .skip)) (.seq (.region 3 (clOps3 S) false) .ret))

theorem isl_nil_inv {M : Mem} {u : Value} (h : VV M (.one (.isl [])) u) : ∃ b c, u = .slice b 0 c ∧ ∀ M', VV M' (.one (.isl [])) u := by
  cases h.one_inv with
  | pure h =>
    cases h with
    | islz b => exact ⟨b, 0, rfl, fun _ => .one (.pure (.islz b))⟩
    | isl es a arr esz cap ha hS hz h hc => exact ⟨some a, cap, rfl, fun _ => .one (.pure (.isl [] a arr esz cap ha (.inl rfl) hz (fun i j hi => by simp at hi) hc))⟩

section
variable {P : Program} {S B E : TypeId} (hS : P.underlying S = some (.slice E))
include hS
theorem run_nil_eqlIn (b : Option Addr) (c n : Nat) (w : World) : (Op.equalIn (n + 1) S (.slice b 0 c) (.slice none 0 0)).run P w = .ok b.isNone w := by
  cases b <;> simp [Op.equalIn, run_underlying hS]
theorem run_nil_eql (b : Option Addr) (c : Nat) (w : World) : (Op.equal S (.slice b 0 c) (.slice none 0 0)).run P w = .ok b.isNone w := run_nil_eqlIn hS b c 9999 w

omit hS in
theorem looksAll {ds : List Deferred} {ro : Option Nat} {n N : Nat} {cf : CF} {M : Mem} {B : Nat} {w : World} {ops : Array Oper} {s s' : St} {a : Act} {Q : Exit → Act → World → Prop} (h1 : ∀ o, o ∈ ops.toList → looks o.op = true) (h2 : At B ds M N s a w)
    (h3 : absOps P cf N ops ops.toList s = some s') (h4 : ∀ a', At B ds M N s' a' w → Keep ops.toList a a' → Q .normal a' w) : wpOpsIn (FO ro) n P ops Q (List.range ops.size) a w := by
  have := looksOps (P := P) (n := n) (ro := ro) (ops := ops) (Q := Q) (rest := []) ops.toList 0 s s' a h1 (fun j o hj => by simpa using hj) h2 h3 (fun a' k1 k2 => by unfold wpOpsIn; exact h4 a' k1 k2)
  rw [List.append_nil] at this
  rw [List.range_eq_range']
  simpa using this

omit hS in
theorem bwdC_ok (hm : P.follows .mixedOrders = true) : CFOK P (CI P bwdC) := fun B M H w f args v H' ws vs hI hA e => by
  obtain ⟨k, hk⟩ := CI_call e
  exact absCall_ok bwdC ⟨fun f gf b es xs S lb h => (by cases h), fun f args v h => (by cases h)⟩ hm k B M H w f args v H' ws vs hI hA hk

theorem clone_nil (hm : P.follows .mixedOrders = true) {f : FuncId} {fn : Func} (hfn : P.funcs[f]? = some fn) (hbody : fn.body = some (clBody S B)) (hnt : fn.ntmps = 8) (hrs : fn.results = #[.tmp 2]) {z : Nat} {hp : Heap}
    (e3 : absOps P (CIR P bwdC) 8 (clOps3 S) (clOps3 S).toList ⟨[(0, .one (.isl []))], [], []⟩ = some ⟨[(2, .one (.sl 0 z 0 0 0)), (7, .one (.sl 0 z 0 0 0)), (6, .one (.isl [])), (5, .one (.sl 0 z 0 0 0)), (0, .one (.isl []))], hp, []⟩)
    {vs : Array Value} {w : World} {M : Mem} (hA : VL M [.one (.isl [])] vs) : Calls P f vs w fun e w' => ∃ u, e = .returned u ∧ (∀ M', VV M' (.one (.isl [])) u) ∧ Below w.heap.size w w' := by
  have hvs : vs.size = 1 := hA.1
  obtain ⟨b, c, hu, hV⟩ := isl_nil_inv (hA.2 0 (by simp))
  have hI0 := memS_inv (S := fun _ => none) (W := w) nofun
  have fin : ∀ {T : Tmps} {M' : Mem} {H : Heap} {a : Act} {w' : World}, Inv w.heap.size M' H w' → TR M' T a.tmps → a.defers = [] → Below w.heap.size w w' → (tget T 2 = .one .nils ∨ tget T 2 = .one (.sl 0 z 0 0 0)) →
      a.defers = [] ∧ ∃ v, (results fn a.tmps).run P w' = .ok v w' ∧ ∃ u, Ending.returned v = .returned u ∧ (∀ M', VV M' (.one (.isl [])) u) ∧ Below w.heap.size w w' := by
    intro T M' H a w' h1 h2 h3 h4 h5
    obtain ⟨u, k1, k2⟩ := run_results (P := P) (fn := fn) (t := T) (a := a.tmps) h1 h2 (vs := [tget T 2]) (by rw [hrs]; rfl)
    have k3 : VV M' (tget T 2) u := k2
    refine ⟨h3, u, k1, u, rfl, fun M2 => ?_, h4⟩
    rcases h5 with h5 | h5
    · rw [h5] at k3
      rw [k3.one_inv.nils_inv]
      exact .one (.pure (.islz none))
    · rw [h5] at k3
      cases k3.one_inv with
      | pure h => cases h
      | sl id sz off len cap a hb h hblk hsp ho h1 h2 h3 h4 => exact .one (.pure (.isl [] a #[] 0 cap hsp (.inl rfl) (fun i hi => by simp at hi) (fun i j hi => by simp at hi) h4))
      | slnil id esz h => exact .one (.pure (.islz none))
  refine calls_of_wp hfn hbody (wpR_none.1 ?_)
  obtain ⟨a0, ha0⟩ : ∃ a0 : Act, a0 = { tmps := vs ++ Array.replicate (fn.ntmps - vs.size) undef, defers := [] } := ⟨_, rfl⟩
  rw [← ha0]
  have hA0 : At w.heap.size [] (memS fun _ => none) 8 ⟨[(0, .one (.isl []))], [], []⟩ a0 w := by
    subst ha0
    refine ⟨hI0, fun i => ?_, rfl, by simp [hnt, hvs]⟩
    rw [tget_cons]
    split
    · rename_i e; subst e
      have h1 := hV (memS fun _ => none)
      have : (vs ++ Array.replicate (fn.ntmps - vs.size) undef).getD 0 undef = vs.getD 0 undef := by
        rw [← getD_toList, ← getD_toList]; simp only [List.getD, Array.toList_append]; rw [List.getElem?_append_left (by simp [hvs])]
      rw [this]; exact h1
    · exact .junk _
  clear ha0
  have e0 : absOps P (CIR P bwdC) 8 (clOps0 S) (clOps0 S).toList ⟨[(0, .one (.isl []))], [], []⟩ = some ⟨[(2, .one .nils), (0, .one (.isl []))], [], []⟩ := by simp [clOps0]
  refine wpIn_seq (wpIn_region ?_)
  refine looksAll (by simp [clOps0, looks]) hA0 e0 fun a1 hA1 _ => ?_
  have hr1 : List.range (clOps1 S B).size = List.range' 0 [clOpM S].length ++ [1] := rfl
  refine wpIn_seq (wpIn_seq (wpIn_region ?_))
  rw [hr1]
  have e1 : absOps P (CIR P bwdC) 8 (clOps1 S B) [clOpM S] ⟨[(2, .one .nils), (0, .one (.isl []))], [], []⟩ = some ⟨[(3, .one (.isl [])), (2, .one .nils), (0, .one (.isl []))], [], []⟩ := by simp [clOpM]
  refine looksOps (P := P) (n := 9) (ro := none) (ops := clOps1 S B) (rest := [1]) [clOpM S] 0 _ _ a1 (by simp [clOpM, looks]) (fun i o h => by
    match i, h with
    | 0, h => exact h
    | i + 1, h => simp at h) hA1 e1 fun a2 hA2 _ => ?_
  obtain ⟨b3, c3, hu3, _⟩ := isl_nil_inv (hA2.tr 3)
  have o1 : (clOps1 S B)[1]? = some (clOpE S B) := rfl
  rw [wpOpsIn_cons]
  unfold wpOpIn
  rw [o1]
  simp only
  have w1 : Region.wanted (clOpE S B) (yielded (clOps1 S B) a2.tmps) = true := rfl
  rw [w1]
  simp only [if_true]
  unfold Oper.wpIn
  refine ⟨fun _ _ => trivial, ?_⟩
  rw [Oper.semAt_eq _ _ _ (by simp [clOpE])]
  have r1 : (execOp a2.eval (clOpE S B)).run P w = .ok (.value (.bool b3.isNone)) w := by
    have h1 : a2.eval (.tmp 3) = .slice b3 0 c3 := hu3
    have h2 := (binOp_eql' (P := P) (run_nil_eql hS b3 c3 w) (by rintro _ _ _ _ ⟨h, _⟩; cases h) (by rintro _ _ ⟨h, _⟩; cases h) (.inr (.inr (.inr (.inr (.inl ⟨_, _, _, rfl⟩)))))).1
    have h3 : eqGuard .eql S (.tmp 3) (.const (.slice none 0 0)) (.slice b3 0 c3) (.slice none 0 0) = pure () := eqGuard_at_slice ..
    have h4 : a2.eval (.const (.slice none 0 0)) = .slice none 0 0 := rfl
    simp [execOp, clOpE, h1, h4, h3, h2]
  rw [r1, Oper.uponIn_value]
  show wpOpsIn _ _ _ _ _ [] (a2.put (some 4) (.bool b3.isNone)) w
  unfold wpOpsIn
  obtain ⟨q1, q2, q3⟩ := TR_put hA2.tr hA2.size (some 4) (v := .one (.bool b3.isNone)) (u := .bool b3.isNone) (.one (.pure (.bool _)))
  obtain ⟨a3, ha3⟩ : ∃ a3, a3 = a2.put (some 4) (.bool b3.isNone) := ⟨_, rfl⟩
  rw [← ha3] at q1 q2 q3 ⊢
  have hA3 : At w.heap.size [] (memS fun _ => none) 8 ⟨[(4, .one (.bool b3.isNone)), (3, .one (.isl [])), (2, .one .nils), (0, .one (.isl []))], [], []⟩ a3 w := ⟨hI0, q1, by rw [q3]; exact hA2.defers, q2⟩
  have c4 : a3.eval (.tmp 4) = .bool b3.isNone := (hA3.tr 4).one_inv.bool_inv
  show wpR none P (.cond (.tmp 4) (.seq (.region 2 (clOps2 S) false) .ret) .skip) _ a3 w
  cases hb : b3.isNone with
  | true =>
    rw [hb] at c4
    refine wpIn_cond_true c4 (wpIn_seq (wpIn_region ?_))
    have e2 : absOps P (CIR P bwdC) 8 (clOps2 S) (clOps2 S).toList ⟨[(4, .one (.bool b3.isNone)), (3, .one (.isl [])), (2, .one .nils), (0, .one (.isl []))], [], []⟩ =
        some ⟨[(2, .one .nils), (4, .one (.bool b3.isNone)), (3, .one (.isl [])), (2, .one .nils), (0, .one (.isl []))], [], []⟩ := by simp [clOps2]
    refine looksAll (by simp [clOps2, looks]) hA3 e2 fun a4 hA4 _ => wpIn_ret ?_
    exact fin hA4.inv hA4.tr hA4.defers (.refl _ _) (.inl rfl)
  | false =>
    rw [hb] at c4
    refine wpIn_cond_false c4 (wpIn_skip ?_)
    show wpR none P (.seq (.region 3 (clOps3 S) false) .ret) _ a3 w
    refine wpIn_seq (wpIn_region ?_)
    have hA5 : At w.heap.size [] (memS fun _ => none) 8 ⟨[(0, .one (.isl []))], [], []⟩ a3 w := by
      refine ⟨hI0, fun i => ?_, hA3.defers, hA3.size⟩
      rw [tget_cons]
      split
      · rename_i e; subst e; exact hA3.tr 0
      · exact .junk _
    rw [List.range_eq_range']
    have := absOps_sound (cfR_ok (rd := bwdC.read) (bwdC_ok hm)) (ro := none) (ops := clOps3 S) (Q := Exit.then (Code.ret.wpIn (FO none) 9 P (bodyPost P fn fun e w' => ∃ u, e = .returned u ∧ (∀ M', VV M' (.one (.isl [])) u) ∧ Below w.heap.size w w')) (bodyPost P fn fun e w' => ∃ u, e = .returned u ∧ (∀ M', VV M' (.one (.isl [])) u) ∧ Below w.heap.size w w'))
      (clOps3 S).toList 0 _ _ _ a3 w (fun j => by simp) hA5 (.refl _) (.refl _ w) e3 (fun a' w' h _ => by
        obtain ⟨_, h2, h3, M', h4, h5, h6, h7⟩ := h
        exact wpIn_ret (fin h5 h6 h2 h7 (.inr rfl)))
    exact this

theorem clone_told (hm : P.follows .mixedOrders = true) {f : FuncId} {fn : Func} (hfn : P.funcs[f]? = some fn) (hbody : fn.body = some (clBody S B)) (hnt : fn.ntmps = 8) (hrs : fn.results = #[.tmp 2]) {z : Nat} {hp : Heap}
    (e3 : absOps P (CIR P bwdC) 8 (clOps3 S) (clOps3 S).toList ⟨[(0, .one (.isl []))], [], []⟩ = some ⟨[(2, .one (.sl 0 z 0 0 0)), (7, .one (.sl 0 z 0 0 0)), (6, .one (.isl [])), (5, .one (.sl 0 z 0 0 0)), (0, .one (.isl []))], hp, []⟩)
    {es : List (List Leaf)} (he : es ≠ [] → ∀ h, CI P bwdC f [.one (.isl es)] h = some (.one (.isl es), h, [])) {B0 : Nat} {M : Mem} {H : Heap} {w : World} {vs : Array Value} (hI : Inv B0 M H w) (hA : VL M [.one (.isl es)] vs) :
    Calls P f vs w (CallR B0 M w (.one (.isl es)) H) := by
  by_cases hn : es = []
  · subst hn
    refine (clone_nil hS hm hfn hbody hnt hrs e3 hA).mono fun e w' hr => ?_
    obtain ⟨u, rfl, h1, h2⟩ := hr
    exact ⟨M, .refl M, hI.after h2, h1 M, ⟨⟨h2.os, h2.tape, h2.output, h2.size, fun k hk => h2.block k (Nat.lt_of_lt_of_le hk hI.base)⟩, h2.mark⟩⟩
  · exact bwdC_ok hm B0 M H w f _ _ _ _ vs hI hA (he hn H)
end

theorem build_none {P : Program} {H : Heap} {t : TypeId} {s b : Nat} {z : List Leaf} (E : ElemT P t s b z) : buildSliceV P none H t 0 [] = some (.one (.sl H.length s 0 0 0), H ++ [some (.row s [])], []) := by
  obtain ⟨⟨e, h1, h2, h3⟩, h4, h9, _⟩ := E
  obtain ⟨i, h5, h6⟩ := Option.map_eq_some_iff.1 h2
  obtain ⟨h7, h8⟩ := Prod.mk.inj h6
  simp [buildSliceV, h1, h5, h3, h7, fillAt, chunk, allocR, put, show ¬ s = 0 by omega]

def cloneT (n bytes : Nat) : List V → Option V
  | [.one (.isl es)] => if sized n es && treeR es && decide (es.length * bytes ≤ 140737488355328) && decide (es.length ≤ 140737488355328) then some (.one (.isl es)) else none
  | _ => none
theorem cloneT_some {n bytes : Nat} {args : List V} {v : V} (h : cloneT n bytes args = some v) : ∃ es, args = [.one (.isl es)] ∧ v = .one (.isl es) ∧ sized n es = true ∧ treeR es = true ∧ es.length * bytes ≤ 140737488355328 ∧ es.length ≤ 140737488355328 := by
  unfold cloneT at h
  split at h
  · rename_i es
    split at h
    · rename_i hc
      cases h
      simp only [Bool.and_eq_true, decide_eq_true_eq] at hc
      exact ⟨es, rfl, rfl, hc.1.1.1, hc.1.1.2, hc.1.2, hc.2⟩
    · cases h
  · cases h
end Go.Proofs.Ytdkknhpdjcdmfaa.Abs
