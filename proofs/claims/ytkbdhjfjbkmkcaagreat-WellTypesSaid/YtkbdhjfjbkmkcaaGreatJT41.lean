/- YtkbdhjfjbkmkcaaGreatJT41: texts that follow each other, as one. -/
import Derived.Test.YtkbdhjfjbkmkcaaGreatJT39
import Derived.Test.YtkbdhjfjbkmkcaaGreatJT34
import Derived.Test.YtkbdhjfjbkmkcaaGreatJT40
/- Lists of numbers and the like, as the machine holds them; loops that look for something. -/
set_option linter.unusedSimpArgs false
set_option linter.unusedVariables false
namespace Go.Proofs.YtkbdhjfjbkmkcaaGreat.Abs
open Go Go.RowKit Go.Proofs

noncomputable abbrev CX : CF := CI Tryz.prog cfg
noncomputable abbrev lpK (f : FuncId) (fn : Func) (N i : Nat) (h : Heap) : St → CR := loopK Tryz.prog cfg (runScope Tryz.prog cfg N h.length (cfg.live f) 0) N h.length (cfg.live f) (loopAt fn i)

abbrev I (n : Int) : V := .one (.int .i64 n)
abbrev Bo (b : Bool) : V := .one (.bool b)
abbrev Sl (es : List (List Leaf)) : V := .one (.isl es)

abbrev Fit {α : Type} (xs : List α) : Prop := xs.length ≤ 17592186044416

def intsOf (xs : List Int) : List (List Leaf) := xs.map fun n => [.int .i64 n]
@[simp] theorem intsOf_length (xs : List Int) : (intsOf xs).length = xs.length := by simp [intsOf]
@[simp] theorem intsOf_get (xs : List Int) (i : Nat) : (intsOf xs)[i]? = (xs[i]?).map fun n => [.int .i64 n] := by simp [intsOf]
@[simp] theorem intsOf_plain (xs : List Int) : plainR (intsOf xs) = true := plainR_map (fun _ => rfl) xs
@[simp] theorem intsOf_tree (xs : List Int) : treeR (intsOf xs) = true := treeR_map (fun _ => rfl) xs
theorem intsOf_snoc (xs : List Int) (n : Int) : intsOf xs ++ [[.int .i64 n]] = intsOf (xs ++ [n]) := by simp [intsOf]
@[simp] theorem intsOf_nil : intsOf [] = [] := rfl
@[simp] theorem sized_ints (xs : List Int) : sized 1 (intsOf xs) = true := sized_map (n := 1) (f := fun n => [.int .i64 n]) (fun _ => rfl) xs
def pairsOf (xs : List (Int × Int)) : List (List Leaf) := xs.map fun p => [.int .i64 p.1, .int .i64 p.2]
@[simp] theorem pairsOf_length (xs : List (Int × Int)) : (pairsOf xs).length = xs.length := by simp [pairsOf]
@[simp] theorem pairsOf_nil : pairsOf [] = [] := rfl
@[simp] theorem pairsOf_get (xs : List (Int × Int)) (i : Nat) : (pairsOf xs)[i]? = (xs[i]?).map fun p => [.int .i64 p.1, .int .i64 p.2] := by simp [pairsOf]
@[simp] theorem pairsOf_plain (xs : List (Int × Int)) : plainR (pairsOf xs) = true := plainR_map (fun _ => rfl) xs
@[simp] theorem pairsOf_tree (xs : List (Int × Int)) : treeR (pairsOf xs) = true := treeR_map (fun _ => rfl) xs

def findI {α : Type} (p : Nat → α → Bool) : Nat → List α → Option Nat
  | _, [] => none
  | i, x :: xs => if p i x then some i else findI p (i + 1) xs

theorem findI_none {α : Type} {p : Nat → α → Bool} : ∀ {xs : List α} {n : Nat}, findI p n xs = none ↔ ∀ i x, xs[i]? = some x → p (n + i) x = false
  | [], n => by simp [findI]
  | x :: xs, n => by
    unfold findI
    constructor
    · intro h i y hy
      split at h
      · cases h
      · rename_i hp
        cases i with
        | zero => simp at hy; subst hy; simpa using hp
        | succ i => rw [show n + (i + 1) = n + 1 + i by omega]; exact findI_none.1 h i y (by simpa using hy)
    · intro h
      have h0 : p n x = false := h 0 x rfl
      rw [h0]
      exact findI_none.2 fun i y hy => by rw [show n + 1 + i = n + (i + 1) by omega]; exact h (i + 1) y (by simpa using hy)

theorem findI_some {α : Type} {p : Nat → α → Bool} : ∀ {xs : List α} {n k : Nat}, findI p n xs = some k → n ≤ k ∧ ∃ x, xs[k - n]? = some x ∧ p k x = true ∧ ∀ j y, j < k - n → xs[j]? = some y → p (n + j) y = false
  | [], n, k, h => by cases h
  | x :: xs, n, k, h => by
    unfold findI at h
    split at h
    · rename_i hp; cases h; exact ⟨Nat.le_refl _, x, by simp, hp, fun j y hj => by omega⟩
    · rename_i hp
      obtain ⟨h1, y, h2, h3, h4⟩ := findI_some h
      refine ⟨by omega, y, by rw [show k - n = (k - (n + 1)) + 1 by omega, List.getElem?_cons_succ]; exact h2, h3, fun j z hj hz => ?_⟩
      cases j with
      | zero => simp at hz; subst hz; simpa using hp
      | succ j => rw [show n + (j + 1) = n + 1 + j by omega]; exact h4 j z (by omega) (by simpa using hz)

theorem findI_any {α : Type} (q : α → Bool) (xs : List α) : (findI (fun _ x => q x) 0 xs).isSome = xs.any q := by
  cases h : findI (fun _ x => q x) 0 xs with
  | none =>
    rw [findI_none] at h
    symm
    simp only [Option.isSome_none, List.any_eq_false]
    intro x hx
    obtain ⟨i, hi, rfl⟩ := List.getElem_of_mem hx
    rw [h i _ (List.getElem?_eq_getElem hi)]; simp
  | some k =>
    obtain ⟨_, x, h1, h2, _⟩ := findI_some h
    symm
    simp only [Option.isSome_some, List.any_eq_true]
    exact ⟨x, List.mem_of_getElem? h1, h2⟩

theorem loop_search {P : Program} {C : Cfg} {sc : Code → Code → St → CR} {N n0 : Nat} {K : List (Nat × Kd)} {c : Code} {α : Type} (xs : List α) (p : Nat → α → Bool) (en : Nat → St) (hit : Nat → AX × St) (miss : AX × St)
    (go : ∀ i x, xs[i]? = some x → i < xs.length → p i x = false → (∀ j y, j < i → xs[j]? = some y → p j y = false) → round P C sc N n0 K c (en i) = some (.normal, en (i + 1)))
    (found : ∀ i x, xs[i]? = some x → i < xs.length → p i x = true → (∀ j y, j < i → xs[j]? = some y → p j y = false) → round P C sc N n0 K c (en i) = some (hit i) ∧ (hit i).1 ≠ .normal)
    (stop : (∀ j y, xs[j]? = some y → p j y = false) → round P C sc N n0 K c (en xs.length) = some miss ∧ miss.1 ≠ .normal) :
    loopK P C sc N n0 K c (en 0) = some (match findI p 0 xs with | some i => hit i | none => miss) := by
  refine loop_fun en (fun i => i ≤ xs.length ∧ (∀ j y, j < i → xs[j]? = some y → p j y = false)) (fun i => xs.length - i) (fun _ => match findI p 0 xs with | some i => hit i | none => miss) ?_ 0 ⟨Nat.zero_le _, fun j y h => by omega⟩
  rintro i ⟨h1, h2⟩
  rcases Nat.lt_or_ge i xs.length with hi | hi
  · have hx : xs[i]? = some xs[i] := List.getElem?_eq_getElem hi
    cases hp : p i xs[i] with
    | false =>
      refine .inl ⟨i + 1, go i _ hx hi hp h2, ⟨hi, fun j y hj hy => ?_⟩, by omega, rfl⟩
      rcases Nat.lt_or_ge j i with hji | hji
      · exact h2 j y hji hy
      · have : j = i := by omega
        subst this; rw [hx] at hy; cases hy; exact hp
    | true =>
      have hf : findI p 0 xs = some i := by
        cases h : findI p 0 xs with
        | none =>
          have := findI_none.1 h i _ hx
          rw [Nat.zero_add, hp] at this; cases this
        | some k =>
          obtain ⟨_, y, k1, k2, k3⟩ := findI_some h
          simp only [Nat.sub_zero, Nat.zero_add] at k1 k2 k3
          rcases Nat.lt_trichotomy k i with hk | hk | hk
          · rw [h2 k y hk k1] at k2; cases k2
          · rw [hk]
          · have := k3 i _ hk hx
            rw [hp] at this; cases this
      rw [hf]
      exact .inr (found i _ hx hi hp h2)
  · have : i = xs.length := by omega
    subst this
    have hall : ∀ j y, xs[j]? = some y → p j y = false := fun j y hy => h2 j y (List.getElem?_eq_some_iff.1 hy).1 hy
    have hf : findI p 0 xs = none := findI_none.2 fun j y hy => by rw [Nat.zero_add]; exact hall j y hy
    rw [hf]
    exact .inr (stop hall)

theorem loop_rel {P : Program} {C : Cfg} {sc : Code → Code → St → CR} {N n0 : Nat} {K : List (Nat × Kd)} {c : Code} {σ : Type} (en : σ → St) (J : σ → Prop) (μ : σ → Nat) (R : σ → AX × St → Prop)
    (step : ∀ s, J s → (∃ s', round P C sc N n0 K c (en s) = some (.normal, en s') ∧ J s' ∧ μ s' < μ s ∧ ∀ r, R s' r → R s r) ∨ ∃ r, round P C sc N n0 K c (en s) = some r ∧ r.1 ≠ .normal ∧ R s r) :
    ∀ s, J s → ∃ r, loopK P C sc N n0 K c (en s) = some r ∧ R s r := by
  have key : ∀ n s, μ s < n → J s → ∃ r, loopK P C sc N n0 K c (en s) = some r ∧ R s r := by
    intro n
    induction n with
    | zero => intro s h; omega
    | succ n ih =>
      intro s hm hJ
      rcases step s hJ with ⟨s', h1, h2, h3, h4⟩ | ⟨r, h1, h2, h3⟩
      · obtain ⟨r, k1, k2⟩ := ih s' (by omega) h2
        exact ⟨r, (iterI_next h1).trans k1, h4 r k2⟩
      · exact ⟨r, iterI_last h1 h2, h3⟩
  exact fun s h => key _ s (Nat.lt_succ_self _) h
end Go.Proofs.YtkbdhjfjbkmkcaaGreat.Abs

/- Small functions over lists of numbers: what each answers. -/
set_option linter.unusedSimpArgs false
set_option linter.unusedVariables false
namespace Go.Proofs.YtkbdhjfjbkmkcaaGreat.Abs
open Go Go.RowKit Go.Proofs

def hasS (h : Heap) (xs : List Int) (n : Int) (r : Bool) (i : Nat) : St := ⟨[(5, I (i : Nat)), (0, Sl (intsOf xs)), (1, I n), (4, Bo r)], h, []⟩
theorem has_loop (h : Heap) (xs : List Int) (hf : Fit xs) (n : Int) : lpK 17 Tryz.f17 18 0 h (hasS h xs n false 0) =
    some (match findI (fun _ x => x == n) 0 xs with | some i => (.ret, hasS h xs n true i) | none => (.exit 0, hasS h xs n false xs.length)) := by
  refine loop_search xs (fun _ x => x == n) (hasS h xs n false) (fun i => (.ret, hasS h xs n true i)) (.exit 0, hasS h xs n false xs.length) ?_ ?_ ?_
  · intro i x hx hi hp _
    simp (disch := omega) [round_eq, hasS, Tryz.f17, lv17, hx, hi, wrap_i64, hp, -getElem?_pos]
  · intro i x hx hi hp _
    simp (disch := omega) [round_eq, hasS, Tryz.f17, lv17, hx, hi, wrap_i64, hp, -getElem?_pos]
  · intro _
    simp (disch := omega) [round_eq, hasS, Tryz.f17, lv17]

theorem any_contains (xs : List Int) (n : Int) : (xs.any fun x => x == n) = xs.contains n := by
  induction xs with
  | nil => rfl
  | cons x xs ih => rw [List.any_cons, List.contains_cons, ih, Bool.beq_comm]

theorem has (h : Heap) (xs : List Int) (hf : Fit xs) (n : Int) : CX 17 [Sl (intsOf xs), I n] h = some (Bo (xs.contains n), h, []) := by
  refine CI_of Tryz.func17 rfl 0 ?_
  have hk : cfg.keep 17 = 0 := rfl
  have e := has_loop h xs hf n
  have hc : (findI (fun _ x => x == n) 0 xs).isSome = xs.contains n := by rw [findI_any, any_contains]
  rw [← hc]
  simp [hasS, lpK, lv17, Tryz.f17] at e
  cases hh : findI (fun _ x => x == n) 0 xs <;> rw [hh] at e <;> simp (disch := omega) [Tryz.f17, lv17, e, hk]

def differs {α : Type} [DecidableEq α] (ys : List α) (i : Nat) (x : α) : Bool := decide (ys[i]? ≠ some x)
def intsS (h : Heap) (xs ys : List Int) (r : Bool) (i : Nat) : St := ⟨[(0, Sl (intsOf xs)), (1, Sl (intsOf ys)), (5, I (i : Nat)), (4, Bo r)], h, []⟩
theorem ints_loop (h : Heap) (xs ys : List Int) (hf : Fit xs) (hl : xs.length = ys.length) : lpK 29 Tryz.f29 26 0 h (intsS h xs ys false 0) =
    some (match findI (differs ys) 0 xs with | some i => (.ret, intsS h xs ys false i) | none => (.exit 0, intsS h xs ys false xs.length)) := by
  have q := qt29
  simp [Tryz.f29, quietFn, quietRegs] at q
  refine loop_search xs (differs ys) (intsS h xs ys false) (fun i => (.ret, intsS h xs ys false i)) (.exit 0, intsS h xs ys false xs.length) ?_ ?_ ?_
  · intro i x hx hi hp _
    have hy : ys[i]? = some x := by simpa [differs] using hp
    simp (disch := omega) [round_eq, intsS, Tryz.f29, lv29, hx, hy, hi, wrap_i64, q, -getElem?_pos]
  · intro i x hx hi hp _
    obtain ⟨y, hy⟩ : ∃ y, ys[i]? = some y := ⟨ys[i]'(by omega), by simp [show i < ys.length by omega]⟩
    have hne : (x != y) = true := by simp [differs, hy] at hp ⊢; exact fun e => hp e.symm
    simp (disch := omega) [round_eq, intsS, Tryz.f29, lv29, hx, hy, hi, wrap_i64, hne, q, -getElem?_pos]
  · intro _
    simp (disch := omega) [round_eq, intsS, Tryz.f29, lv29]

theorem findI_eq {α : Type} [DecidableEq α] (xs ys : List α) (hl : xs.length = ys.length) : (findI (differs ys) 0 xs).isNone = decide (xs = ys) := by
  cases h : findI (differs ys) 0 xs with
  | none =>
    rw [findI_none] at h
    have : xs = ys := by
      apply List.ext_getElem? ; intro i
      cases hx : xs[i]? with
      | some x => have := h i x hx; simp [differs] at this; exact this.symm
      | none => rw [List.getElem?_eq_none_iff] at hx; symm; rw [List.getElem?_eq_none_iff]; omega
    simp [this]
  | some k =>
    obtain ⟨_, x, h1, h2, _⟩ := findI_some h
    have : xs ≠ ys := by rintro rfl; simp [differs] at h1 h2; exact h2 h1
    simp [this]

theorem ints (h : Heap) (xs ys : List Int) (hf : Fit xs) : CX 29 [Sl (intsOf xs), Sl (intsOf ys)] h = some (Bo (decide (xs = ys)), h, []) := by
  refine CI_of Tryz.func29 rfl 0 ?_
  have hk : cfg.keep 29 = 0 := rfl
  by_cases hl : xs.length = ys.length
  · have e := ints_loop h xs ys hf hl
    rw [← findI_eq xs ys hl]
    simp [intsS, lpK, lv29, Tryz.f29] at e
    cases hh : findI (differs ys) 0 xs <;> rw [hh] at e <;> simp (disch := omega) [Tryz.f29, lv29, e, hk, hl]
  · have hl' : ((xs.length : Int) != (ys.length : Int)) = true := by simp; omega
    have hne : xs ≠ ys := by rintro rfl; exact hl rfl
    simp (disch := omega) [Tryz.f29, lv29, hk, hl', hne]
end Go.Proofs.YtkbdhjfjbkmkcaaGreat.Abs

/- Functions over lists of numbers and pairs: what each answers. -/
set_option linter.unusedSimpArgs false
set_option linter.unusedVariables false
namespace Go.Proofs.YtkbdhjfjbkmkcaaGreat.Abs
open Go Go.RowKit Go.Proofs

def indexS (h : Heap) (xs : List Int) (n r : Int) (i : Nat) : St := ⟨[(0, Sl (intsOf xs)), (8, I (i : Nat)), (7, I (xs.length : Nat)), (1, I n), (4, I r)], h, []⟩
theorem index_loop (h : Heap) (xs : List Int) (hf : Fit xs) (n : Int) : lpK 93 Tryz.f93 19 0 h (indexS h xs n 0 0) =
    some (match findI (fun _ x => n == x) 0 xs with | some i => (.ret, indexS h xs n i i) | none => (.exit 0, indexS h xs n 0 xs.length)) := by
  refine loop_search xs (fun _ x => n == x) (indexS h xs n 0) (fun i => (.ret, indexS h xs n i i)) (.exit 0, indexS h xs n 0 xs.length) ?_ ?_ ?_
  · intro i x hx hi hp _
    simp (disch := omega) [round_eq, indexS, Tryz.f93, lv93, hx, hi, wrap_i64, hp, -getElem?_pos]
  · intro i x hx hi hp _
    simp (disch := omega) [round_eq, indexS, Tryz.f93, lv93, hx, hi, wrap_i64, hp, -getElem?_pos]
  · intro _
    simp (disch := omega) [round_eq, indexS, Tryz.f93, lv93]

def idxI (xs : List Int) (n : Int) : Int := match findI (fun _ x => n == x) 0 xs with | some i => (i : Int) | none => -1
theorem index (h : Heap) (xs : List Int) (hf : Fit xs) (n : Int) : CX 93 [Sl (intsOf xs), I n] h = some (I (idxI xs n), h, []) := by
  refine CI_of Tryz.func93 rfl 0 ?_
  have hk : cfg.keep 93 = 0 := rfl
  have e := index_loop h xs hf n
  simp [indexS, lpK, lv93, Tryz.f93] at e
  unfold idxI
  cases hh : findI (fun _ x => n == x) 0 xs <;> rw [hh] at e <;> simp (disch := omega) [Tryz.f93, lv93, e, hk]

theorem idxI_ge (xs : List Int) (n : Int) : decide (idxI xs n ≥ 0) = xs.contains n := by
  have h := findI_any (fun x => n == x) xs
  have : (xs.any fun x => n == x) = xs.contains n := by rw [← any_contains]; congr 1; funext x; exact Bool.beq_comm
  rw [this] at h
  unfold idxI
  cases hh : findI (fun _ x => n == x) 0 xs with
  | none => rw [hh] at h; rw [← h]; rfl
  | some i => rw [hh] at h; rw [← h]; simp

theorem contains (h : Heap) (xs : List Int) (hf : Fit xs) (n : Int) : CX 63 [Sl (intsOf xs), I n] h = some (Bo (xs.contains n), h, []) := by
  refine CI_of Tryz.func63 rfl 0 ?_
  have hk : cfg.keep 63 = 0 := rfl
  rw [← idxI_ge]
  simp (disch := omega) [Tryz.f63, hk, index _ xs hf n]
end Go.Proofs.YtkbdhjfjbkmkcaaGreat.Abs
