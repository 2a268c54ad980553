/- YtdkknhpdjcdmfaaJB37: texts that follow each other, as one. -/
import Derived.Test.YtdkknhpdjcdmfaaJB36
import Derived.Test.YtdkknhpdjcdmfaaJB30
import Derived.Test.YtdkknhpdjcdmfaaJB25
/- What a call does to an object of its caller's: a heap with one object told anew. Bytes. -/
set_option linter.unusedSimpArgs false
set_option linter.unusedVariables false
namespace Go.Proofs.Ytdkknhpdjcdmfaa.Abs
open Go Go.RowKit Go.Proofs

def nilK : V → Option V
  | .one (.ptr a b c d) => some (.one (.ptr a b c d))
  | .one (.iptr a b) => some (.one (.iptr a b))
  | .one (.fn a b) => some (.one (.fn a b))
  | _ => none
@[simp] theorem op_nilCheck {P : Program} {cf : CF} {slot : Option Nat} {T : Tmps} {h : Heap} {dst : Option Nat} {ty : TypeId} {pos : String} {after : Array Edge} {guard : Option (Nat × Bool)} (x : Operand) :
    absOp P cf slot T h ⟨dst, .nilCheck x, ty, pos, after, guard⟩ = pureR h (nilK (ev T x)) := by
  simp only [absOp, nilK]
  split <;> simp_all [pureR]
attribute [simp] nilK

/-- A heap with the object at one place told anew. -/
def updH (h : Heap) (k z : Nat) (es : List (List Leaf)) : Heap := h.set k (some (.row z es))
section
variable {h t : Heap} {k z : Nat} {es : List (List Leaf)}
@[simp] theorem upd_length : (updH h k z es).length = h.length := by simp [updH]
theorem upd_self (hr : h[k]? = some (some (.row z es))) : updH h k z es = h := by
  unfold updH
  apply List.ext_getElem?
  intro i
  rw [List.getElem?_set]
  split
  · rename_i hi; subst hi
    rw [hr]
    split
    · rfl
    · rename_i hn; rw [List.getElem?_eq_none (by omega)] at hr; cases hr
  · rfl
@[simp] theorem upd_get (hk : k < h.length) : (updH h k z es)[k]? = some (some (.row z es)) := by simp [updH, hk]
@[simp] theorem upd_get' (hk : k < h.length) : (updH h k z es ++ t)[k]? = some (some (.row z es)) := by
  rw [List.getElem?_append_left (by simpa using hk), upd_get hk]
@[simp] theorem upd_row (hk : k < h.length) (sz : Nat) : rowAt (updH h k z es) k sz = if es.length = sz then some (z, es) else none := by
  simp [rowAt, upd_get hk]
@[simp] theorem upd_row' (hk : k < h.length) (sz : Nat) : rowAt (updH h k z es ++ t) k sz = if es.length = sz then some (z, es) else none := by
  simp [rowAt, upd_get' hk]
theorem upd_ne {k2 : Nat} (hn : k2 ≠ k) : (updH h k z es)[k2]? = h[k2]? := by
  unfold updH
  rw [List.getElem?_set_ne (fun e => hn e.symm)]
theorem upd_row_ne {k2 : Nat} (hn : k2 ≠ k) (sz : Nat) : rowAt (updH h k z es) k2 sz = rowAt h k2 sz := by
  simp only [rowAt, upd_ne hn]
theorem upd_row_ne' {k2 : Nat} (hn : k2 ≠ k) (hl : k2 < h.length) (sz : Nat) : rowAt (updH h k z es ++ t) k2 sz = rowAt h k2 sz := by
  simp only [rowAt]
  rw [List.getElem?_append_left (by simpa using hl), upd_ne hn]
@[simp] theorem upd_at0 : (updH h k z es ++ t)[h.length]? = nthO t 0 := by
  have := heap_at0 (h := updH h k z es) (t := t); rwa [upd_length] at this
@[simp] theorem upd_at (j : Nat) : (updH h k z es ++ t)[h.length + j]? = nthO t j := by
  have := heap_at (h := updH h k z es) (t := t) j; rwa [upd_length] at this
@[simp] theorem upd_row_at0 (sz : Nat) : rowAt (updH h k z es ++ t) h.length sz = rowAt t 0 sz := by
  have := row_at0 (h := updH h k z es) (t := t) sz; rwa [upd_length] at this
@[simp] theorem upd_row_at (j sz : Nat) : rowAt (updH h k z es ++ t) (h.length + j) sz = rowAt t j sz := by
  have := row_at (h := updH h k z es) (t := t) j sz; rwa [upd_length] at this
@[simp] theorem upd_set (z' : Nat) (es' : List (List Leaf)) : (updH h k z es).set k (some (.row z' es')) = updH h k z' es' := by
  simp [updH, List.set_set]
@[simp] theorem upd_set' (hk : k < h.length) (z' : Nat) (es' : List (List Leaf)) : (updH h k z es ++ t).set k (some (.row z' es')) = updH h k z' es' ++ t := by
  rw [List.set_append_left _ _ (by simpa using hk), upd_set]
@[simp] theorem upd_set_at0 (o : Option AO) : (updH h k z es ++ t).set h.length o = updH h k z es ++ t.set 0 o := by
  have := set_at0 (h := updH h k z es) (t := t) o; rwa [upd_length] at this
@[simp] theorem upd_set_at (j : Nat) (o : Option AO) : (updH h k z es ++ t).set (h.length + j) o = updH h k z es ++ t.set j o := by
  have := set_at (h := updH h k z es) (t := t) j o; rwa [upd_length] at this
@[simp] theorem upd_take0 : (updH h k z es).take h.length = updH h k z es := by
  rw [List.take_of_length_le (by simp)]
@[simp] theorem upd_take : (updH h k z es ++ t).take h.length = updH h k z es := by
  have := List.take_left (l₁ := updH h k z es) (l₂ := t); rwa [upd_length] at this
end

@[simp] theorem fzH_cons {h : Heap} {n0 : Nat} {L : List (Option Nat)} (id : Nat) (ids : List Nat) (acc : Heap) : fzH h n0 L (id :: ids) acc = (objK h n0 L h[id]?).bind fun o => fzH h n0 L ids (acc.set id o) := by
  rw [fzH]
  cases h[id]? with
  | none => rfl
  | some o => cases o with
    | none => rfl
    | some o => cases o with
      | row z es => simp only [objK, fzO, ← rows_eq]; cases mapO (mapO (fzT h n0 L)) es <;> rfl
      | mp es => simp only [objK]; cases fzO h n0 L (.mp es) <;> rfl

@[simp] theorem wsOf_one {n0 k : Nat} (hk : k < n0) : wsOf n0 [k] = [k] := by
  simp [wsOf, hk, List.eraseDups_cons]
@[simp] theorem wsOf_dup {n0 k : Nat} (ws : List Nat) : wsOf n0 (k :: k :: ws) = wsOf n0 (k :: ws) := by
  unfold wsOf
  by_cases hk : k < n0
  · simp [hk, List.eraseDups_cons]
  · simp [hk]
@[simp] theorem wsOf_skip {n0 k i : Nat} (ws : List Nat) (hi : n0 ≤ i) : wsOf n0 (k :: i :: ws) = wsOf n0 (k :: ws) := by
  unfold wsOf
  by_cases hk : k < n0
  · simp [hk, show ¬ i < n0 by omega]
  · simp [hk, show ¬ i < n0 by omega]

@[simp] theorem dups_nil {α : Type} [BEq α] : ([] : List α).eraseDups = [] := rfl
@[simp] theorem dups_one {α : Type} [BEq α] (a : α) : [a].eraseDups = [a] := by simp [List.eraseDups_cons]

/-- Numbers out of cells. -/
def deInts (es : List (List Leaf)) : List Int := es.map fun c => match c with
  | [.int _ n] => n
  | _ => 0
@[simp] theorem deInts_ints (xs : List Int) : deInts (intsOf xs) = xs := by
  unfold deInts intsOf
  rw [List.map_map]
  exact (List.map_congr_left fun _ _ => rfl).trans (List.map_id _)

def u8sOf (xs : List Int) : List (List Leaf) := xs.map fun n => [.int .u8 n]
@[simp] theorem u8sOf_length (xs : List Int) : (u8sOf xs).length = xs.length := by simp [u8sOf]
@[simp] theorem u8sOf_get (xs : List Int) (i : Nat) : (u8sOf xs)[i]? = (xs[i]?).map fun n => [.int .u8 n] := by simp [u8sOf]
@[simp] theorem u8sOf_plain (xs : List Int) : plainR (u8sOf xs) = true := plainR_map (fun _ => rfl) xs
@[simp] theorem u8sOf_tree (xs : List Int) : treeR (u8sOf xs) = true := treeR_map (fun _ => rfl) xs
theorem u8sOf_snoc (xs : List Int) (n : Int) : u8sOf xs ++ [[.int .u8 n]] = u8sOf (xs ++ [n]) := by simp [u8sOf]
theorem u8sOf_app (xs ys : List Int) : u8sOf xs ++ u8sOf ys = u8sOf (xs ++ ys) := by simp [u8sOf]
@[simp] theorem u8sOf_nil : u8sOf [] = [] := rfl
theorem u8sOf_one (n : Int) : [[Leaf.int .u8 n]] = u8sOf [n] := rfl
@[simp] theorem sized_bytes (xs : List Int) : sized 1 (u8sOf xs) = true := sized_map (n := 1) (f := fun n => [.int .u8 n]) (fun _ => rfl) xs

theorem wrap_u8 (n : Int) : IntKind.u8.wrap n = n % 256 := by
  simp [IntKind.wrap, IntKind.min, IntKind.max, IntKind.signed, IntKind.bits]
theorem u8_or (n : Int) : IntKind.u8.wrap ((BitVec.ofInt IntKind.u8.bits (IntKind.u8.wrap n) ||| BitVec.ofInt IntKind.u8.bits 128).toNat : Int) = n % 128 + 128 := by
  have key : ∀ m : Fin 256, ((BitVec.ofInt 8 (m.val : Int) ||| BitVec.ofInt 8 128).toNat : Int) = (m.val : Int) % 128 + 128 := by decide +kernel
  have h1 : n % 256 = (((n % 256).toNat : Nat) : Int) := by omega
  have h2 := key ⟨(n % 256).toNat, by omega⟩
  simp only at h2
  rw [wrap_u8 n, h1]
  show IntKind.u8.wrap ((BitVec.ofInt 8 _ ||| BitVec.ofInt 8 128).toNat : Int) = _
  rw [h2, wrap_u8]
  omega
theorem u8_or' (n : Int) : IntKind.u8.wrap (((IntKind.u8.wrap n % 2 ^ IntKind.u8.bits).toNat ||| 128 % 2 ^ IntKind.u8.bits : Nat) : Int) = n % 128 + 128 := by
  have := u8_or n
  simpa using this
theorem u8_and (n : Int) (h0 : 0 ≤ n) (h1 : n < 256) : IntKind.u8.wrap ((BitVec.ofInt IntKind.u8.bits n &&& BitVec.ofInt IntKind.u8.bits 127).toNat : Int) = n % 128 := by
  have key : ∀ m : Fin 256, ((BitVec.ofInt 8 (m.val : Int) &&& BitVec.ofInt 8 127).toNat : Int) = (m.val : Int) % 128 := by decide +kernel
  have h3 : n = ((n.toNat : Nat) : Int) := by omega
  have h2 := key ⟨n.toNat, by omega⟩
  simp only at h2
  rw [h3]
  show IntKind.u8.wrap ((BitVec.ofInt 8 _ &&& BitVec.ofInt 8 127).toNat : Int) = _
  rw [h2, wrap_u8]
  omega
theorem u8_and' (n : Int) (h0 : 0 ≤ n) (h1 : n < 256) : IntKind.u8.wrap (((n % 2 ^ IntKind.u8.bits).toNat &&& 127 % 2 ^ IntKind.u8.bits : Nat) : Int) = n % 128 := by
  have := u8_and n h0 h1
  simpa using this
end Go.Proofs.Ytdkknhpdjcdmfaa.Abs

/- Maps as bytes: a number, and numbers that rise. -/
set_option linter.unusedSimpArgs false
set_option linter.unusedVariables false
namespace Go.Proofs.Ytdkknhpdjcdmfaa.Abs
open Go Go.RowKit Go.Proofs

/-- A number as bytes. -/
def putF (n : Nat) : List Int := if h : 128 ≤ n then ((n % 128 + 128 : Nat) : Int) :: putF (n / 128) else [(n : Int)]
termination_by n
decreasing_by omega
theorem putF_big {n : Nat} (h : 128 ≤ n) : putF n = ((n % 128 + 128 : Nat) : Int) :: putF (n / 128) := by rw [putF, dif_pos h]
theorem putF_small {n : Nat} (h : n < 128) : putF n = [(n : Int)] := by rw [putF, dif_neg (by omega)]
theorem putF_pos (n : Nat) : 0 < (putF n).length := by
  unfold putF; split <;> simp
theorem putF_len : ∀ (k n : Nat), n < 128 ^ (k + 1) → (putF n).length ≤ k + 1
  | 0, n, h => by rw [putF_small (by omega)]; simp
  | k + 1, n, h => by
    by_cases hn : 128 ≤ n
    · rw [putF_big hn, List.length_cons]
      have := putF_len k (n / 128) (by rw [Nat.div_lt_iff_lt_mul (by omega)]; rw [Nat.pow_succ] at h; exact h)
      omega
    · rw [putF_small (by omega)]; simp
theorem putF_le9 {n : Nat} (h : n ≤ 9223372036854775807) : (putF n).length ≤ 9 := putF_len 8 n (by omega)

/-- What the loop leaves. -/
def putL (n : Nat) (es : List (List Leaf)) : Nat × List (List Leaf) := if h : 128 ≤ n then putL (n / 128) (es ++ [[.int .u8 ((n % 128 + 128 : Nat) : Int)]]) else (n, es)
termination_by n
decreasing_by omega
theorem putL_big {n : Nat} (es : List (List Leaf)) (h : 128 ≤ n) : putL n es = putL (n / 128) (es ++ [[.int .u8 ((n % 128 + 128 : Nat) : Int)]]) := by rw [putL, dif_pos h]
theorem putL_small {n : Nat} (es : List (List Leaf)) (h : n < 128) : putL n es = (n, es) := by rw [putL, dif_neg (by omega)]
theorem putL_eq (n : Nat) (es : List (List Leaf)) : (putL n es).1 < 128 ∧ (putL n es).2 ++ [[.int .u8 ((putL n es).1 : Int)]] = es ++ u8sOf (putF n) := by
  induction n using Nat.strongRecOn generalizing es with
  | _ n ih =>
    by_cases h : 128 ≤ n
    · rw [putL_big es h, putF_big h]
      have := ih (n / 128) (by omega) (es ++ [[.int .u8 ((n % 128 + 128 : Nat) : Int)]])
      exact ⟨this.1, by rw [this.2]; simp [u8sOf]⟩
    · rw [putL_small es (by omega), putF_small (by omega)]
      exact ⟨by simp; omega, by simp [u8sOf]⟩

def putS (h : Heap) (k : Nat) (s : Nat × List (List Leaf) × Bool) : St := ⟨[(1, I (s.1 : Nat)), (0, .one (.sl k 1 s.2.1.length 0 s.2.1.length))], updH h k 1 s.2.1 ++ [none], bif s.2.2 then [k] else []⟩
theorem put_loop (h : Heap) (k : Nat) (hk : k < h.length) (n : Nat) (hn : n ≤ 9223372036854775807) (es : List (List Leaf)) (hp : plainR es = true) (hl : es.length ≤ 17592186044416) :
    ∃ b, lpK 68 Try.f68 20 0 h (putS h k (n, es, false)) = some (.exit 0, putS h k ((putL n es).1, (putL n es).2, b)) := by
  have := loop_rel (P := Try.prog) (C := cfg) (sc := runScope Try.prog cfg 20 h.length (cfg.live 68) 0) (N := 20) (n0 := h.length) (K := cfg.live 68) (c := loopAt Try.f68 0) (putS h k)
    (fun s => s.1 ≤ 9223372036854775807 ∧ plainR s.2.1 = true ∧ s.2.1.length + (putF s.1).length ≤ 17592186044416 + 9) (fun s => s.1) (fun s r => ∃ b, r = (.exit 0, putS h k ((putL s.1 s.2.1).1, (putL s.1 s.2.1).2, b))) ?_ (n, es, false) ⟨hn, hp, by have := putF_le9 hn; simp only; omega⟩
  · obtain ⟨r, h1, b, rfl⟩ := this
    exact ⟨b, h1⟩
  rintro ⟨n, es, b⟩ ⟨j1, j2, j3⟩
  simp only at j1 j2 j3 ⊢
  by_cases hb : 128 ≤ n
  · refine .inl ⟨(n / 128, es ++ [[.int .u8 ((n % 128 + 128 : Nat) : Int)]], true), ?_, ⟨by simp only; omega, by simp [j2], ?_⟩, by simp only; omega, ?_⟩
    · have hd : (Int.fdiv (n : Int) (2 ^ (min 7 IntKind.i64.bits)) : Int) = (n : Int) / 128 := by
        rw [Int.fdiv_eq_ediv_of_nonneg _ (by decide)]; rfl
      have hw : ((n % 128 + 128 : Nat) : Int) = (n : Int) % 128 + 128 := by omega
      have hk' : ¬ h.length ≤ k := by omega
      have hbI : (128 : Int) ≤ (n : Int) := by omega
      cases b <;> simp (disch := omega) [round_eq, putS, Try.f68, lv68, hb, hbI, hd, hw, wrap_i64, u8_or', room_of, j2, hk', -getElem?_pos]
    · rw [putF_big hb] at j3; simp at j3 ⊢; omega
    · rintro r ⟨b', rfl⟩; exact ⟨b', by rw [putL_big es hb]⟩
  · refine .inr ⟨(.exit 0, putS h k (n, es, b)), ?_, nofun, b, by rw [putL_small es (by omega)]⟩
    have hk' : ¬ h.length ≤ k := by omega
    have hbI : ¬ (128 : Int) ≤ (n : Int) := by omega
    cases b <;> simp (disch := omega) [round_eq, putS, Try.f68, lv68, hb, hbI, j2, hk']

/-- A number behind bytes that its caller has made. -/
theorem put_upd (h : Heap) (k : Nat) (hk : k < h.length) (n : Nat) (hn : n ≤ 9223372036854775807) (es : List (List Leaf)) (hp : plainR es = true) (hl : es.length ≤ 17592186044416) :
    CX 68 [.one (.sl k 1 es.length 0 es.length), I n] (updH h k 1 es) = some (.one (.sl k 1 (es ++ u8sOf (putF n)).length 0 (es ++ u8sOf (putF n)).length), updH h k 1 (es ++ u8sOf (putF n)), [k]) := by
  refine CI_of Try.func68 rfl 0 ?_
  have hkp : cfg.keep 68 = 1 := rfl
  obtain ⟨b, e⟩ := put_loop h k hk n hn es hp hl
  obtain ⟨e1, e2⟩ := putL_eq n es
  have e3 := congrArg List.length e2
  have e4 := putF_le9 hn
  have e5 := congrArg plainR e2
  generalize putL n es = q at e e1 e2 e3 e5
  obtain ⟨n', es'⟩ := q
  have hk' : ¬ h.length ≤ k := by omega
  simp at e1 e2 e3 e5
  rw [← e2]
  simp [putS, lpK, lv68, Try.f68] at e
  have e6 : (es' : List (List Leaf)).length ≤ 17592186044416 + 9 := by omega
  have e7 : IntKind.u8.wrap (n' : Int) = n' := by rw [wrap_u8]; omega
  cases b <;> simp (disch := omega) [Try.f68, lv68, e, hkp, hk', room_of, e5, e7, hp, rootsV, ownV]

def rowOk (s : Nat) : Option (Nat × List (List Leaf)) → Bool
  | some r => r.1 == s && plainR r.2
  | none => false
def rowEs : Option (Nat × List (List Leaf)) → List (List Leaf)
  | some r => r.2
  | none => []
@[simp] theorem rowOk_some (s : Nat) (r : Nat × List (List Leaf)) : rowOk s (some r) = (r.1 == s && plainR r.2) := rfl
@[simp] theorem rowEs_some (r : Nat × List (List Leaf)) : rowEs (some r) = r.2 := rfl
def putI (n : Int) : List Int := putF n.toNat

theorem row_upd {H : Heap} {k s sz : Nat} (hr : rowOk s (rowAt H k sz) = true) : ∃ es, rowAt H k sz = some (s, es) ∧ plainR es = true ∧ k < H.length ∧ es.length = sz ∧ H = updH H k s es := by
  cases h1 : rowAt H k sz with
  | none => rw [h1] at hr; cases hr
  | some r =>
    rw [h1] at hr
    obtain ⟨z, es⟩ := r
    simp at hr
    obtain ⟨rfl, hp⟩ := hr
    have h2 := rowAt_some h1
    have h3 := h2.1
    simp only at h3
    refine ⟨es, rfl, hp, ?_, h2.2, (upd_self h3).symm⟩
    exact (List.getElem?_eq_some_iff.1 h3).1

theorem put_at (H : Heap) (k sz : Nat) (n : Int) (h0 : 0 ≤ n) (hn : n ≤ 9223372036854775807) (hr : rowOk 1 (rowAt H k sz) = true) (hl : sz ≤ 17592186044416) :
    CX 68 [.one (.sl k 1 sz 0 sz), I n] H = some (.one (.sl k 1 (sz + (putI n).length) 0 (sz + (putI n).length)), H.set k (some (.row 1 (rowEs (rowAt H k sz) ++ u8sOf (putI n)))), [k]) := by
  obtain ⟨es, e1, e2, e3, e4, e5⟩ := row_upd hr
  have e6 := put_upd H k e3 n.toNat (by omega) es e2 (by omega)
  rw [← e5] at e6
  subst e4
  rw [show ((n.toNat : Nat) : Int) = n by omega] at e6
  rw [e6, e1]
  simp [putI, updH]

def putNS (h : Heap) (s : Nat × List (List Leaf)) : St := ⟨[(1, I (s.1 : Nat)), (0, .one (.sl h.length 1 s.2.length 0 s.2.length))], h ++ [some (.row 1 s.2)], []⟩
theorem putN_loop (h : Heap) (n : Nat) (hn : n ≤ 9223372036854775807) :
    lpK 68 Try.f68 20 0 h (putNS h (n, [])) = some (.exit 0, putNS h (putL n [])) := by
  refine loop_fun (putNS h) (fun s => s.1 ≤ 9223372036854775807 ∧ plainR s.2 = true ∧ s.2.length + (putF s.1).length ≤ 17592186044416 + 9) (fun s => s.1) (fun s => (.exit 0, putNS h (putL s.1 s.2))) ?_ (n, []) ⟨hn, rfl, by have := putF_le9 hn; simp; omega⟩
  rintro ⟨n, es⟩ ⟨j1, j2, j3⟩
  simp only at j1 j2 j3 ⊢
  by_cases hb : 128 ≤ n
  · refine .inl ⟨(n / 128, es ++ [[.int .u8 ((n % 128 + 128 : Nat) : Int)]]), ?_, ⟨by simp only; omega, by simp [j2], ?_⟩, by simp only; omega, by rw [putL_big es hb]⟩
    · have hd : (Int.fdiv (n : Int) (2 ^ (min 7 IntKind.i64.bits)) : Int) = (n : Int) / 128 := by
        rw [Int.fdiv_eq_ediv_of_nonneg _ (by decide)]; rfl
      have hw : ((n % 128 + 128 : Nat) : Int) = (n : Int) % 128 + 128 := by omega
      have hbI : (128 : Int) ≤ (n : Int) := by omega
      simp (disch := omega) [round_eq, putNS, Try.f68, lv68, hb, hbI, hd, hw, wrap_i64, u8_or', room_of, j2, -getElem?_pos]
    · rw [putF_big hb] at j3; simp at j3 ⊢; omega
  · refine .inr ⟨?_, nofun⟩
    have hbI : ¬ (128 : Int) ≤ (n : Int) := by omega
    rw [putL_small es (by omega)]
    simp (disch := omega) [round_eq, putNS, Try.f68, lv68, hb, hbI, j2]

/-- A number as new bytes. -/
theorem put_nils (h : Heap) (n : Int) (h0 : 0 ≤ n) (hn : n ≤ 9223372036854775807) :
    CX 68 [.one .nils, I n] h = some (.one (.sl h.length 1 (putI n).length 0 (putI n).length), h ++ [some (.row 1 (u8sOf (putI n)))], []) := by
  refine CI_of Try.func68 rfl 0 ?_
  have hkp : cfg.keep 68 = 1 := rfl
  have e := putN_loop h n.toNat (by omega)
  obtain ⟨e1, e2⟩ := putL_eq n.toNat []
  have e3 := congrArg List.length e2
  have e4 := putF_le9 (show n.toNat ≤ 9223372036854775807 by omega)
  have e5 := congrArg plainR e2
  generalize putL n.toNat [] = q at e e1 e2 e3 e5
  obtain ⟨n', es'⟩ := q
  simp at e1 e2 e3 e5
  simp [putNS, lpK, lv68, Try.f68, show max n 0 = n by omega] at e
  have e7 : IntKind.u8.wrap (n' : Int) = n' := by rw [wrap_u8]; omega
  unfold putI
  rw [← e2]
  simp (disch := omega) [Try.f68, lv68, e, hkp, room_of, e5, e7, rootsV, ownV, show max n 0 = n by omega]
  omega

/-- Numbers that rise as bytes: by how much each is more than the one ahead. -/
def gaps : Int → List Int → List Int
  | _, [] => []
  | last, x :: xs => putI (x - last - 1) ++ gaps x xs
def Up : Int → List Int → Prop
  | _, [] => True
  | last, x :: xs => last < x ∧ x ≤ 1099511627776 ∧ Up x xs
def listF (xs : List Int) : List Int := putI xs.length ++ gaps (-1) xs
theorem putI_le9 {n : Int} (h : n ≤ 9223372036854775807) : (putI n).length ≤ 9 := putF_le9 (by omega)
theorem gaps_le : ∀ (last : Int) (xs : List Int), -1 ≤ last → Up last xs → (gaps last xs).length ≤ 9 * xs.length
  | _, [], _, _ => Nat.le_refl _
  | last, x :: xs, hl, ⟨h1, h2, h3⟩ => by
    have e1 := gaps_le x xs (by omega) h3
    have e2 : (putI (x - last - 1)).length ≤ 9 := putI_le9 (by omega)
    simp only [gaps, List.length_append, List.length_cons]
    omega

def lstS (h : Heap) (k : Nat) (xs : List Int) (s : Nat × Int × List (List Leaf)) : St := ⟨[(0, .one (.sl k 1 s.2.2.length 0 s.2.2.length)), (14, I (s.1 : Nat)), (13, I (xs.length : Nat)), (12, Sl (intsOf xs)), (5, I s.2.1)], updH h k 1 s.2.2 ++ [none], [k]⟩
def lastF (last : Int) (xs : List Int) : Int := xs.foldl (fun _ x => x) last
theorem lst_loop (h : Heap) (k : Nat) (hk : k < h.length) (xs : List Int) (hf : Fit xs) (hu : Up (-1) xs) (es : List (List Leaf)) (hp : plainR es = true) (hl : es.length + 9 * xs.length ≤ 17592186044416) :
    lpK 69 Try.f69 27 0 h (lstS h k xs (0, -1, es)) = some (.exit 0, lstS h k xs (xs.length, lastF (-1) xs, es ++ u8sOf (gaps (-1) xs))) := by
  have key := loop_fun (P := Try.prog) (C := cfg) (sc := runScope Try.prog cfg 27 h.length (cfg.live 69) 0) (N := 27) (n0 := h.length) (K := cfg.live 69) (c := loopAt Try.f69 0) (lstS h k xs)
    (fun s => s.1 ≤ xs.length ∧ -1 ≤ s.2.1 ∧ Up s.2.1 (xs.drop s.1) ∧ plainR s.2.2 = true ∧ s.2.2.length + 9 * (xs.length - s.1) ≤ 17592186044416) (fun s => xs.length - s.1) (fun s => (.exit 0, lstS h k xs (xs.length, lastF s.2.1 (xs.drop s.1), s.2.2 ++ u8sOf (gaps s.2.1 (xs.drop s.1))))) ?_ (0, -1, es) ⟨Nat.zero_le _, by simp, by simpa using hu, hp, by simp only; omega⟩
  · simp only [List.drop_zero] at key
    exact key
  rintro ⟨i, last, es⟩ ⟨j1, j2, j3, j4, j5⟩
  simp only at j1 j2 j3 j4 j5 ⊢
  have hk' : ¬ h.length ≤ k := by omega
  rcases Nat.lt_or_ge i xs.length with hi | hi
  · obtain ⟨x, hx⟩ : ∃ x, xs[i]? = some x := ⟨_, List.getElem?_eq_getElem hi⟩
    have hd : xs.drop i = x :: xs.drop (i + 1) := by
      rw [List.drop_eq_getElem_cons hi]; rw [List.getElem?_eq_getElem hi] at hx; cases hx; rfl
    rw [hd] at j3 ⊢
    obtain ⟨u1, u2, u3⟩ := j3
    have h9 : (putI (x - last - 1)).length ≤ 9 := putI_le9 (by omega)
    refine .inl ⟨(i + 1, x, es ++ u8sOf (putI (x - last - 1))), ?_, ⟨hi, by simp only; omega, u3, by simp [j4], by simp; omega⟩, by simp only; omega, ?_⟩
    · simp (disch := (first | omega | simp (disch := omega) [j4, hk])) [round_eq, lstS, Try.f69, lv69, hx, hi, wrap_i64, put_at, j4, hk', -getElem?_pos]
    · simp [gaps, lastF, u8sOf]
  · have : i = xs.length := by omega
    subst this
    refine .inr ⟨?_, nofun⟩
    simp (disch := omega) [round_eq, lstS, Try.f69, lv69, j4, hk', gaps, lastF]

/-- Numbers that rise behind bytes that its caller has made. -/
theorem list_at (H : Heap) (k sz : Nat) (xs : List Int) (hf : Fit xs) (hu : Up (-1) xs) (hr : rowOk 1 (rowAt H k sz) = true) (hl : sz + 9 * xs.length + 9 ≤ 17592186044416) :
    CX 69 [.one (.sl k 1 sz 0 sz), Sl (intsOf xs)] H = some (.one (.sl k 1 (sz + (listF xs).length) 0 (sz + (listF xs).length)), H.set k (some (.row 1 (rowEs (rowAt H k sz) ++ u8sOf (listF xs)))), [k]) := by
  obtain ⟨es, e1, e2, e3, e4, e5⟩ := row_upd hr
  rw [e1, e5]
  subst e4
  refine CI_of Try.func69 rfl 0 ?_
  have hkp : cfg.keep 69 = 1 := rfl
  have hk' : ¬ H.length ≤ k := by omega
  have h9 : (putI xs.length).length ≤ 9 := putI_le9 (by omega)
  have e := lst_loop H k e3 xs hf hu (es ++ u8sOf (putI xs.length)) (by simp [e2]) (by simp; omega)
  simp [lstS, lpK, lv69, Try.f69, u8sOf_app] at e
  simp (disch := (first | omega | simp (disch := omega) [e2, e3])) [Try.f69, lv69, put_at, e, hkp, hk', e2, rootsV, ownV, listF, u8sOf_app, -getElem?_pos]

/-! The same, of numbers that its caller has made. -/
def lsoS (h : Heap) (k k2 : Nat) (xs : List Int) (s : Nat × Int × List (List Leaf)) : St := ⟨[(0, .one (.sl k 1 s.2.2.length 0 s.2.2.length)), (14, I (s.1 : Nat)), (13, I (xs.length : Nat)), (12, .one (.sl k2 1 xs.length 0 xs.length)), (5, I s.2.1)], updH h k 1 s.2.2 ++ [none], [k]⟩
theorem lso_loop (h : Heap) (k : Nat) (hk : k < h.length) (k2 : Nat) (hk2 : k2 < h.length) (hne : k2 ≠ k) (xs : List Int) (hr2 : rowAt h k2 xs.length = some (1, intsOf xs)) (hf : Fit xs) (hu : Up (-1) xs) (es : List (List Leaf)) (hp : plainR es = true) (hl : es.length + 9 * xs.length ≤ 17592186044416) :
    lpK 69 Try.f69 27 0 h (lsoS h k k2 xs (0, -1, es)) = some (.exit 0, lsoS h k k2 xs (xs.length, lastF (-1) xs, es ++ u8sOf (gaps (-1) xs))) := by
  have key := loop_fun (P := Try.prog) (C := cfg) (sc := runScope Try.prog cfg 27 h.length (cfg.live 69) 0) (N := 27) (n0 := h.length) (K := cfg.live 69) (c := loopAt Try.f69 0) (lsoS h k k2 xs)
    (fun s => s.1 ≤ xs.length ∧ -1 ≤ s.2.1 ∧ Up s.2.1 (xs.drop s.1) ∧ plainR s.2.2 = true ∧ s.2.2.length + 9 * (xs.length - s.1) ≤ 17592186044416) (fun s => xs.length - s.1) (fun s => (.exit 0, lsoS h k k2 xs (xs.length, lastF s.2.1 (xs.drop s.1), s.2.2 ++ u8sOf (gaps s.2.1 (xs.drop s.1))))) ?_ (0, -1, es) ⟨Nat.zero_le _, by simp, by simpa using hu, hp, by simp only; omega⟩
  · simp only [List.drop_zero] at key
    exact key
  rintro ⟨i, last, es⟩ ⟨j1, j2, j3, j4, j5⟩
  simp only at j1 j2 j3 j4 j5 ⊢
  have hk' : ¬ h.length ≤ k := by omega
  have hk2' : ¬ h.length ≤ k2 := by omega
  have hr3 : ∀ es, rowAt (updH h k 1 es ++ [none]) k2 xs.length = some (1, intsOf xs) := fun es => by rw [upd_row_ne' hne hk2, hr2]
  rcases Nat.lt_or_ge i xs.length with hi | hi
  · obtain ⟨x, hx⟩ : ∃ x, xs[i]? = some x := ⟨_, List.getElem?_eq_getElem hi⟩
    have hd : xs.drop i = x :: xs.drop (i + 1) := by
      rw [List.drop_eq_getElem_cons hi]; rw [List.getElem?_eq_getElem hi] at hx; cases hx; rfl
    rw [hd] at j3 ⊢
    obtain ⟨u1, u2, u3⟩ := j3
    have h9 : (putI (x - last - 1)).length ≤ 9 := putI_le9 (by omega)
    refine .inl ⟨(i + 1, x, es ++ u8sOf (putI (x - last - 1))), ?_, ⟨hi, by simp only; omega, u3, by simp [j4], by simp; omega⟩, by simp only; omega, ?_⟩
    · simp (disch := (first | omega | simp (disch := omega) [j4, hk])) [round_eq, lsoS, Try.f69, lv69, hx, hi, wrap_i64, put_at, j4, hk', hk2', hr3, -getElem?_pos]
    · simp [gaps, lastF, u8sOf]
  · have : i = xs.length := by omega
    subst this
    refine .inr ⟨?_, nofun⟩
    simp (disch := omega) [round_eq, lsoS, Try.f69, lv69, j4, hk', hk2', gaps, lastF]

theorem list_own (H : Heap) (k sz k2 n : Nat) (hne : k2 ≠ k) (hr2 : rowAt H k2 n = some (1, intsOf (deInts (rowEs (rowAt H k2 n))))) (hf : Fit (deInts (rowEs (rowAt H k2 n)))) (hu : Up (-1) (deInts (rowEs (rowAt H k2 n)))) (hr : rowOk 1 (rowAt H k sz) = true) (hl : sz + 9 * n + 9 ≤ 17592186044416) :
    CX 69 [.one (.sl k 1 sz 0 sz), .one (.sl k2 1 n 0 n)] H = some (.one (.sl k 1 (sz + (listF (deInts (rowEs (rowAt H k2 n)))).length) 0 (sz + (listF (deInts (rowEs (rowAt H k2 n)))).length)), H.set k (some (.row 1 (rowEs (rowAt H k sz) ++ u8sOf (listF (deInts (rowEs (rowAt H k2 n))))))), [k]) := by
  generalize deInts (rowEs (rowAt H k2 n)) = xs at hr2 hf hu ⊢
  have hn : n = xs.length := by have := (rowAt_some hr2).2; simpa using this.symm
  subst hn
  have hk2 : k2 < H.length := by
    have := (rowAt_some hr2).1
    exact (List.getElem?_eq_some_iff.1 this).1
  obtain ⟨es, e1, e2, e3, e4, e5⟩ := row_upd hr
  have hr4 : rowAt (updH H k 1 es) k2 xs.length = some (1, intsOf xs) := by rw [upd_row_ne hne, hr2]
  rw [e1, e5]
  subst e4
  refine CI_of Try.func69 rfl 0 ?_
  have hkp : cfg.keep 69 = 1 := rfl
  have hk' : ¬ H.length ≤ k := by omega
  have hk2' : ¬ H.length ≤ k2 := by omega
  have h9 : (putI xs.length).length ≤ 9 := putI_le9 (by omega)
  have e := lso_loop H k e3 k2 hk2 hne xs hr2 hf hu (es ++ u8sOf (putI xs.length)) (by simp [e2]) (by simp; omega)
  simp [lsoS, lpK, lv69, Try.f69, u8sOf_app] at e
  simp (disch := (first | omega | simp (disch := omega) [e2, e3])) [Try.f69, lv69, put_at, e, hkp, hk', hk2', hr4, e2, rootsV, ownV, listF, u8sOf_app, -getElem?_pos]
end Go.Proofs.Ytdkknhpdjcdmfaa.Abs

/- Maps: what is told of a safepoint, as both say; the law. -/
set_option linter.unusedSimpArgs false
set_option linter.unusedVariables false
namespace Go.Proofs.Ytdkknhpdjcdmfaa.Abs
open Go Go.RowKit Go.Proofs

def hitB (es : List Ent) (n : Int) (i : Nat) : Bool := match es[i]? with | some e => decide (e.n = n) | none => false

theorem bsearch (h : Heap) (es : List Ent) (hf : Fit es) (hs : Sorted es) (n : Int) : ∃ i, Cut es n i ∧ CX 60 [Sl (entsOf es), I n, .one (.fn 61 [])] h = some (.tup [I i, Bo (hitB es n i)], h, []) := by
  obtain ⟨i, hc, g⟩ := bs_loop h es hf hs n
  refine ⟨i, hc, ?_⟩
  refine CI_of Try.func60 rfl 0 ?_
  have hk : cfg.keep 60 = 0 := rfl
  simp [bsS, lpK, lv60, Try.f60] at g
  unfold hitB
  by_cases hi : i < es.length
  · obtain ⟨x, hx⟩ : ∃ x, es[i]? = some x := ⟨es[i], List.getElem?_eq_getElem hi⟩
    have en := find_cmp [] x n
    have hb : (cmpI x.n n == 0) = decide (x.n = n) := by
      unfold cmpI
      by_cases c1 : x.n < n
      · simp [c1]; omega
      · by_cases c2 : n < x.n
        · simp [c1, c2]; omega
        · simp [c1, c2]; omega
    simp [encEnt] at en
    simp (disch := omega) [Try.f60, lv60, hk, g, hi, hx, encEnt, en, hb, -getElem?_pos]
  · have hn : es[i]? = none := List.getElem?_eq_none (by omega)
    simp (disch := omega) [Try.f60, lv60, hk, g, hi, hn, -getElem?_pos]

def findE (es : List Ent) (n : Int) : Option Ent := match findI (fun _ e => e.n == n) 0 es with
  | some i => es[i]?
  | none => none
def noEnt : Ent := ⟨0, 0, [], []⟩

theorem findE_cut {es : List Ent} {n : Int} (hs : Sorted es) {i : Nat} (hc : Cut es n i) : findE es n = if hitB es n i then es[i]? else none := by
  unfold findE hitB
  cases hx : es[i]? with
  | none =>
    have hall : findI (fun _ e => e.n == n) 0 es = none := findI_none.2 fun j y hy => by
      have hj : j < i := by
        have := (List.getElem?_eq_some_iff.1 hy).1
        rw [List.getElem?_eq_none_iff] at hx; omega
      have := hc.below j y hj hy
      simp; omega
    rw [hall]; rfl
  | some x =>
    by_cases he : x.n = n
    · have hf : findI (fun _ e => e.n == n) 0 es = some i := by
        cases hq : findI (fun _ e => e.n == n) 0 es with
        | none => have := findI_none.1 hq i x hx; simp [he] at this
        | some k =>
          obtain ⟨_, y, k1, k2, k3⟩ := findI_some hq
          simp only [Nat.sub_zero] at k1
          simp at k2
          rcases Nat.lt_trichotomy k i with h | h | h
          · have := hc.below k y h k1; omega
          · rw [h]
          · have := hs i k x y h hx k1; omega
      rw [hf]; simp [he, hx]
    · have hall : findI (fun _ e => e.n == n) 0 es = none := findI_none.2 fun j y hy => by
        rcases Nat.lt_trichotomy j i with h | h | h
        · have := hc.below j y h hy; simp; omega
        · subst h; rw [hx] at hy; cases hy; simp [he]
        · have h1 := hs i j x y h hx hy
          have h2 := hc.above i x (Nat.le_refl _) hx
          simp; omega
      rw [hall]; simp [he]

theorem mfind (h : Heap) (m : Mps) (hm : m.Ok) (hs : Sorted m.es) (n : Int) : CX 24 [.agg (encMps m), I n] h = some (.tup [.agg (encEnt ((findE m.es n).getD noEnt)), Bo (findE m.es n).isSome], h, []) := by
  refine CI_of Try.func24 rfl 0 ?_
  have hk : cfg.keep 24 = 0 := rfl
  obtain ⟨i, hc, e⟩ := bsearch (h ++ [some (.row 2 [[.isl (intsOf m.sizes), .isl (entsOf m.es)]]), some (.row 4 [[.int .i64 0, .int .i64 0, .nils, .nils]])]) m.es hm.es hs n
  rw [findE_cut hs hc]
  cases hx : m.es[i]? with
  | none =>
    have hb : hitB m.es n i = false := by simp [hitB, hx]
    rw [hb] at e
    simp (disch := omega) [Try.f24, hk, encMps, encEnt, noEnt, e, hb]
  | some x =>
    cases hb : hitB m.es n i with
    | false =>
      rw [hb] at e
      simp (disch := omega) [Try.f24, hk, encMps, encEnt, noEnt, e]
    | true =>
      rw [hb] at e
      simp (disch := omega) [Try.f24, hk, encMps, encEnt, noEnt, e, hx, -getElem?_pos]

def fndS (h : Heap) (m : Mps) (n : Int) (e : Ent) (b : Bool) (i : Nat) : St := ⟨[(6, I (i : Nat)), (2, .one (.ptr h.length 1 0 0)), (1, I n), (4, .one (.ptr (h.length + 1) 1 0 0)), (5, Bo b)],
  h ++ [some (.row 2 [encMps m]), some (.row 4 [if b then encEnt e else [.int .i64 0, .int .i64 0, .nils, .nils]])], []⟩
theorem fnd_loop (h : Heap) (m : Mps) (hm : m.Ok) (n : Int) : lpK 25 Try.f25 28 0 h (fndS h m n noEnt false 0) =
    some (match findI (fun _ e => e.n == n) 0 m.es with | some i => (.ret, fndS h m n ((m.es[i]?).getD noEnt) true i) | none => (.exit 0, fndS h m n noEnt false m.es.length)) := by
  have he := hm.es
  refine loop_search m.es (fun _ e => e.n == n) (fndS h m n noEnt false) (fun i => (.ret, fndS h m n ((m.es[i]?).getD noEnt) true i)) (.exit 0, fndS h m n noEnt false m.es.length) ?_ ?_ ?_
  · intro i x hx hi hp _
    simp (disch := omega) [round_eq, fndS, encMps, encEnt, Try.f25, lv25, hx, hi, wrap_i64, hp, -getElem?_pos]
  · intro i x hx hi hp _
    simp (disch := omega) [round_eq, fndS, encMps, encEnt, Try.f25, lv25, hx, hi, wrap_i64, hp, -getElem?_pos]
  · intro _
    simp (disch := omega) [round_eq, fndS, encMps, Try.f25, lv25]

theorem mfind' (h : Heap) (m : Mps) (hm : m.Ok) (n : Int) : CX 25 [.agg (encMps m), I n] h = some (.tup [.agg (encEnt ((findE m.es n).getD noEnt)), Bo (findE m.es n).isSome], h, []) := by
  refine CI_of Try.func25 rfl 0 ?_
  have hk : cfg.keep 25 = 0 := rfl
  have g := fnd_loop h m hm n
  simp [fndS, encMps, encEnt, lpK, lv25, Try.f25] at g
  unfold findE
  cases hq : findI (fun _ e => e.n == n) 0 m.es with
  | none =>
    rw [hq] at g
    simp (disch := omega) [Try.f25, lv25, hk, encMps, encEnt, noEnt, g]
  | some i =>
    rw [hq] at g
    obtain ⟨_, x, hx, _⟩ := findI_some hq
    simp only [Nat.sub_zero] at hx
    simp (disch := omega) [Try.f25, lv25, hk, encMps, encEnt, noEnt, g, hx, -getElem?_pos]

theorem sameEnt (h : Heap) (e : Ent) (he : e.Ok) : CX 26 [.agg (encEnt e), .agg (encEnt e)] h = some (Bo true, h, []) := by
  refine CI_of Try.func26 rfl 0 ?_
  have hk : cfg.keep 26 = 0 := rfl
  have h1 := he.ds
  have h2 := he.ps
  simp (disch := omega) [Try.f26, hk, encEnt, ints _ _ _ h2, pairs _ _ _ h1]
end Go.Proofs.Ytdkknhpdjcdmfaa.Abs

/- The example of the law of maps, as the machine runs it. -/
namespace Go.Proofs.Ytdkknhpdjcdmfaa.Abs
open Go Go.RowKit Go.Proofs

def yes : Option (V × Heap × List Nat) → Bool
  | some (.one (.bool true), [], []) => true
  | _ => false
theorem yes_eq {r : Option (V × Heap × List Nat)} (h : yes r = true) : r = some (.one (.bool true), [], []) := by
  unfold yes at h
  split at h
  · rfl
  · cases h

theorem works25 : CI Try.prog cfg 21 [] [] = some (.one (.bool true), [], []) :=
  CI_run 300 (yes_eq (by decide +kernel))
end Go.Proofs.Ytdkknhpdjcdmfaa.Abs

/- The law of maps: the program tells what the document tells. -/
set_option linter.unusedSimpArgs false
set_option linter.unusedVariables false
namespace Go.Proofs.Ytdkknhpdjcdmfaa.Abs
open Go Go.RowKit Go.Proofs

theorem check_sorted {m : Mps} (hc : (checkF m).1 = 0) : Sorted m.es := by
  unfold checkF at hc
  split at hc
  · cases hc
  · split at hc
    · cases hc
    · split at hc
      · rename_i i hi
        obtain ⟨_, x, hx, hb, _⟩ := findI_some hi
        simp only [Nat.sub_zero] at hx
        rw [hx] at hc
        simp [badEnt] at hb
        simp at hc
        split at hc
        · cases hc
        · omega
      · rename_i hn
        rw [findI_none] at hn
        have step : ∀ (i : Nat) (x : Ent), m.es[i]? = some x → lastN m.es i < x.n := by
          intro i x hx
          have := hn i x hx
          simp [badEnt] at this; omega
        have key : ∀ (d i : Nat) (x y : Ent), m.es[i]? = some x → m.es[i + d + 1]? = some y → x.n < y.n := by
          intro d
          induction d with
          | zero =>
            intro i x y hx hy
            have := step _ y hy
            rwa [Nat.add_zero, lastN_succ hx] at this
          | succ d ih =>
            intro i x y hx hy
            obtain ⟨z, hz⟩ : ∃ z, m.es[i + d + 1]? = some z := by
              have := (List.getElem?_eq_some_iff.1 hy).1
              exact ⟨m.es[i + d + 1]'(by omega), List.getElem?_eq_getElem (by omega)⟩
            have h1 := ih i x z hx hz
            have h2 := step _ y hy
            rw [show i + (d + 1) + 1 = (i + d + 1) + 1 by omega, lastN_succ hz] at h2
            omega
        intro i j x y hij hx hy
        exact key (j - i - 1) i x y hx (by rw [show i + (j - i - 1) + 1 = j by omega]; exact hy)

theorem findE_ok {m : Mps} (hm : m.Ok) (n : Int) : ((findE m.es n).getD noEnt).Ok := by
  unfold findE
  split
  · rename_i i hi
    cases hx : m.es[i]? with
    | none => exact ⟨by simp [noEnt, Fit], by simp [noEnt, Fit]⟩
    | some x => exact hm.each x (List.mem_of_getElem? hx)
  · exact ⟨by simp [noEnt, Fit], by simp [noEnt, Fit]⟩

theorem mapsChecks (h : Heap) (m : Mps) (hm : m.Ok) (n : Int) : CX 5 [.agg (encMps m), I n] h = some (Bo true, h, []) := by
  refine CI_of Try.func5 rfl 0 ?_
  have hk : cfg.keep 5 = 0 := rfl
  have q := qt5
  simp [Try.f5, quietFn, quietRegs] at q
  have e1 := light [] m hm
  have e2 := check [] m hm
  have e3 := check' [] m hm
  simp [encMps] at e1 e2 e3
  by_cases c1 : weigh 200 m.es m.sizes.length ≤ 200
  · by_cases c2 : (checkF m).1 = 0
    · have e4 := mfind (h ++ [some (.row 2 [[.isl (intsOf m.sizes), .isl (entsOf m.es)]])]) m hm (check_sorted c2) n
      have ok := findE_ok hm n
      generalize hx : (findE m.es n).getD noEnt = x at e4 ok
      have e6 := sameEnt [] x ok
      simp [encMps, encEnt] at e4 e6
      have e5 : ∀ h, CX 25 [.agg (encMps m), I n] h = some (.tup [.agg (encEnt x), Bo (findE m.es n).isSome], h, []) := fun h => by rw [mfind' h m hm n, hx]
      simp [encMps, encEnt] at e5
      simp (disch := omega) [Try.f5, hk, q, encMps, e1, e2, e3, e4, e5, e6, c1, c2, works25]
    · have c2' : ((checkF m).1 != 0) = true := by simpa using c2
      simp (disch := omega) [Try.f5, hk, q, encMps, e1, e2, e3, c1, c2', works25]
  · simp (disch := omega) [Try.f5, hk, q, encMps, e1, c1, works25]

/-! Trees of the law's types. -/

theorem list_of {α β : Type} {f : α → β} : ∀ {es : List β}, (∀ x, x ∈ es → ∃ a, x = f a) → ∃ l : List α, es = l.map f ∧ l.length = es.length
  | [], _ => ⟨[], rfl, rfl⟩
  | e :: es, h => by
    obtain ⟨a, ha⟩ := h e List.mem_cons_self
    obtain ⟨l, hl, hn⟩ := list_of (es := es) fun x hx => h x (List.mem_cons_of_mem _ hx)
    exact ⟨a :: l, by rw [ha, hl]; rfl, by simp [hn]⟩

theorem reach_fit {α : Type} {xs : List α} {b : Nat} (hb : 8 ≤ b) (h : xs.length * b ≤ reachBytes) : Fit xs := by
  unfold reachBytes at h
  have : xs.length * 8 ≤ xs.length * b := Nat.mul_le_mul_left _ hb
  show xs.length ≤ _
  omega

theorem typed_ints {ls : List Leaf} (h : Typed (.slice (.int .i64)) ls) : ∃ xs : List Int, ls = [.isl (intsOf xs)] ∧ Fit xs := by
  simp only [Typed] at h
  obtain ⟨es, rfl, h1, h2⟩ := h
  obtain ⟨xs, rfl, hl⟩ := list_of (f := fun n : Int => [Leaf.int .i64 n]) (es := es) fun x hx => by
    obtain ⟨n, hn, _⟩ := h2 x hx; exact ⟨n, hn⟩
  exact ⟨xs, rfl, reach_fit (b := 8) (by omega) (by rw [hl]; exact h1)⟩

theorem typed_pairs {ls : List Leaf} (h : Typed (.slice (.struct [.int .i64, .int .i64])) ls) : ∃ xs : List (Int × Int), ls = [.isl (pairsOf xs)] ∧ Fit xs := by
  simp only [Typed] at h
  obtain ⟨es, rfl, h1, h2⟩ := h
  obtain ⟨xs, rfl, hl⟩ := list_of (f := fun p : Int × Int => [Leaf.int .i64 p.1, Leaf.int .i64 p.2]) (es := es) fun x hx => by
    have := h2 x hx
    simp only [TypedAll, Typed] at this
    obtain ⟨_, _, rfl, ⟨a, rfl, _⟩, _, _, rfl, ⟨b, rfl, _⟩, rfl⟩ := this
    exact ⟨(a, b), rfl⟩
  exact ⟨xs, rfl, reach_fit (b := 16) (by omega) (by rw [hl]; exact h1)⟩

def tEntry : Ty := .struct [.int .i64, .int .i64, .slice (.int .i64), .slice (.struct [.int .i64, .int .i64])]
def tMaps : Ty := .struct [.slice (.int .i64), .slice tEntry]

theorem typed_maps {v : V} (h : TypedV tMaps v) : ∃ m : Mps, v = .agg (encMps m) ∧ m.Ok := by
  obtain ⟨ls, rfl, h⟩ := h
  simp only [TypedAll] at h
  obtain ⟨a, _, rfl, h1, b, _, rfl, h2, rfl⟩ := h
  obtain ⟨xs, rfl, hx⟩ := typed_ints h1
  simp only [Typed, tEntry] at h2
  obtain ⟨es, rfl, h3, h4⟩ := h2
  have each : ∀ x, x ∈ es → ∃ e : { e : Ent // e.Ok }, x = encEnt e.1 := by
    intro x hx
    have := h4 x hx
    simp only [TypedAll] at this
    obtain ⟨_, _, rfl, g1, _, _, rfl, g2, c, _, rfl, g3, d, _, rfl, g4, rfl⟩ := this
    obtain ⟨ps, rfl, hp⟩ := typed_ints g3
    obtain ⟨ds, rfl, hd⟩ := typed_pairs g4
    simp only [Typed] at g1 g2
    obtain ⟨n, rfl, _⟩ := g1
    obtain ⟨f, rfl, _⟩ := g2
    exact ⟨⟨⟨n, f, ps, ds⟩, ⟨hp, hd⟩⟩, rfl⟩
  obtain ⟨l, rfl, hl⟩ := list_of each
  refine ⟨⟨xs, l.map (·.1)⟩, ?_, ⟨hx, ?_, fun e he => ?_⟩⟩
  · simp [encMps, entsOf, List.map_map]
  · have := reach_fit (xs := l) (b := 16) (by omega) (by rw [hl]; exact h3); simpa [Fit] using this
  · obtain ⟨x, _, rfl⟩ := List.mem_map.1 he; exact x.2
end Go.Proofs.Ytdkknhpdjcdmfaa.Abs
