/- Maps: what is told of a safepoint. -/
import Derived.Test.YtdkknhpdjcdmfaaM6
set_option linter.unusedSimpArgs false
set_option linter.unusedVariables false
namespace Go.Proofs.Ytdkknhpdjcdmfaa.Abs
open Go Go.RowKit Go.Proofs

def callK (P : Program) (cf : CF) (h : Heap) (vs : List V) : V → Res
  | .one (.fn g caps) => if callee P g then cf g (vs ++ caps.map V.one) h else none
  | _ => none
theorem op_callv {P : Program} {cf : CF} {slot : Option Nat} {T : Tmps} {h : Heap} {dst : Option Nat} {ty : TypeId} {pos : String} {after : Array Edge} {guard : Option (Nat × Bool)} (i : Nat) (args : Array Operand) (tys : Array TypeId) :
    absOp P cf slot T h ⟨dst, .call { callee := .value (.tmp i), args := args, argTypes := tys }, ty, pos, after, guard⟩ = callK P cf h (args.toList.map (ev T)) (tget T i) := by
  simp only [absOp, ev, callK]
  split <;> simp_all
theorem callK_fn (P : Program) (cf : CF) (h : Heap) (vs : List V) (g : FuncId) (caps : List Leaf) : callK P cf h vs (.one (.fn g caps)) = if callee P g then cf g (vs ++ caps.map V.one) h else none := rfl
theorem fzT_fn0 {h : Heap} {n0 : Nat} {L : List (Option Nat)} (f : FuncId) : fzT h n0 L (.fn f []) = some (.fn f []) := rfl
theorem ev_func {t : Tmps} (f : FuncId) : ev t (.func f) = .one (.fn f []) := rfl
attribute [simp] op_callv callK_fn fzT_fn0 ev_func

theorem wrap_u64 {n : Int} (h1 : 0 ≤ n) (h2 : n ≤ 9223372036854775807) : IntKind.u64.wrap n = n := by
  simp [IntKind.wrap, IntKind.min, IntKind.max, IntKind.signed, IntKind.bits]
  omega
theorem conv_int {P : Program} {h : Heap} (s d : TypeId) (k : IntKind) (n : Int) : convertV P h s d (.one (.int k n)) = match P.underlying s, P.underlying d with
    | some _, some (.int k') => some (.one (.int k' (k'.wrap n)))
    | _, _ => none := by
  unfold convertV
  cases P.underlying s with
  | none => rfl
  | some a =>
    cases P.underlying d with
    | none => cases a <;> rfl
    | some b =>
      cases b <;> cases a <;> try rfl
      rename_i e
      simp only [view, Option.bind_none]
      split <;> first | rfl | (split <;> rfl)
attribute [simp] conv_int

theorem find_cmp (h : Heap) (e : Ent) (n : Int) : CX 61 [.agg (encEnt e), I n] h = some (I (cmpI e.n n), h, []) := by
  refine CI_of Try.func61 rfl 0 ?_
  have hk : cfg.keep 61 = 0 := rfl
  simp [Try.f61, hk, encEnt, compare]

/-- Numbers that rise. -/
def Sorted (es : List Ent) : Prop := ∀ (i j : Nat) (x y : Ent), i < j → es[i]? = some x → es[j]? = some y → x.n < y.n
/-- A place up to which numbers are below one, and from which on they are not. -/
structure Cut (es : List Ent) (n : Int) (i : Nat) : Prop where
  le : i ≤ es.length
  below : ∀ j x, j < i → es[j]? = some x → x.n < n
  above : ∀ j x, i ≤ j → es[j]? = some x → n ≤ x.n

def bsS (h : Heap) (es : List Ent) (n : Int) (s : Nat × Nat) : St := ⟨[(0, Sl (entsOf es)), (8, I (es.length : Nat)), (9, I (s.1 : Nat)), (10, I (s.2 : Nat)), (2, .one (.fn 61 [])), (1, I n)], h, []⟩
theorem bs_loop (h : Heap) (es : List Ent) (hf : Fit es) (hs : Sorted es) (n : Int) : ∃ i, Cut es n i ∧ lpK 60 Try.f60 49 0 h (bsS h es n (0, es.length)) = some (.exit 0, bsS h es n (i, i)) := by
  have := loop_rel (P := Try.prog) (C := cfg) (sc := runScope Try.prog cfg 49 h.length (cfg.live 60) 0) (N := 49) (n0 := h.length) (K := cfg.live 60) (c := loopAt Try.f60 0) (bsS h es n)
    (fun s => s.1 ≤ s.2 ∧ s.2 ≤ es.length ∧ (∀ j x, j < s.1 → es[j]? = some x → x.n < n) ∧ (∀ j x, s.2 ≤ j → es[j]? = some x → n ≤ x.n)) (fun s => s.2 - s.1) (fun s r => ∃ i, Cut es n i ∧ r = (.exit 0, bsS h es n (i, i))) ?_ (0, es.length) ⟨Nat.zero_le _, Nat.le_refl _, fun j x h => by omega, fun j x h1 h2 => by have := (List.getElem?_eq_some_iff.1 h2).1; omega⟩
  · obtain ⟨r, h1, i, h2, rfl⟩ := this
    exact ⟨i, h2, h1⟩
  rintro ⟨i, j⟩ ⟨j1, j2, j3, j4⟩
  simp only at j1 j2 j3 j4 ⊢
  by_cases hij : i < j
  · obtain ⟨k, hk1, hk2⟩ : ∃ k : Nat, k = (i + j) / 2 ∧ ((i : Int) + j).fdiv 2 = (k : Int) := ⟨(i + j) / 2, rfl, by rw [Int.fdiv_eq_ediv_of_nonneg _ (by omega)]; omega⟩
    obtain ⟨x, hx⟩ : ∃ x, es[k]? = some x := ⟨es[k]'(by omega), List.getElem?_eq_getElem (by omega)⟩
    have en := find_cmp [] x n
    simp [encEnt] at en
    by_cases c : x.n < n
    · have hc : cmpI x.n n = -1 := by simp [cmpI, c]
      rw [hc] at en
      refine .inl ⟨(k + 1, j), ?_, ⟨by simp only; omega, j2, fun l y hl hy => ?_, j4⟩, by simp only; omega, fun r hr => hr⟩
      · simp (disch := omega) [round_eq, bsS, Try.f60, lv60, hij, wrap_i64, wrap_u64, IntKind.bits, hk2, hx, encEnt, en, -getElem?_pos]
      · simp only at hl
        rcases Nat.lt_or_ge l k with h1 | h1
        · have := hs l _ y x h1 hy hx; omega
        · have : l = k := by omega
          subst this; rw [hx] at hy; cases hy; exact c
    · have hc : ¬ cmpI x.n n < 0 := by unfold cmpI; split; omega; split <;> omega
      refine .inl ⟨(i, k), ?_, ⟨by simp only; omega, by simp only; omega, j3, fun l y hl hy => ?_⟩, by simp only; omega, fun r hr => hr⟩
      · simp (disch := omega) [round_eq, bsS, Try.f60, lv60, hij, wrap_i64, wrap_u64, IntKind.bits, hk2, hx, encEnt, en, hc, -getElem?_pos]
      · simp only at hl
        rcases Nat.lt_or_ge k l with h1 | h1
        · have := hs _ l x y h1 hx hy; omega
        · have : l = k := by omega
          subst this; rw [hx] at hy; cases hy; omega
  · have : i = j := by omega
    subst this
    refine .inr ⟨(.exit 0, bsS h es n (i, i)), ?_, by simp, i, ⟨j2, j3, j4⟩, rfl⟩
    simp (disch := omega) [round_eq, bsS, Try.f60, lv60, -getElem?_pos]
end Go.Proofs.Ytdkknhpdjcdmfaa.Abs
