/- YtdkknhpdjcdmfaaJB36: texts that follow each other, as one. -/
import Derived.Test.YtdkknhpdjcdmfaaJB30
import Derived.Test.YtdkknhpdjcdmfaaJB34
import Derived.Test.YtdkknhpdjcdmfaaJB35
/- Lists of numbers and the like, as the machine holds them; loops that look for something. -/
set_option linter.unusedSimpArgs false
set_option linter.unusedVariables false
namespace Go.Proofs.Ytdkknhpdjcdmfaa.Abs
open Go Go.RowKit Go.Proofs

noncomputable abbrev CX : CF := CI Try.prog cfg
noncomputable abbrev lpK (f : FuncId) (fn : Func) (N i : Nat) (h : Heap) : St → CR := loopK Try.prog cfg (runScope Try.prog cfg N h.length (cfg.live f) 0) N h.length (cfg.live f) (loopAt fn i)

abbrev I (n : Int) : V := .one (.int .i64 n)
abbrev Bo (b : Bool) : V := .one (.bool b)
abbrev Sl (es : List (List Leaf)) : V := .one (.isl es)

/-- So long may a list be. -/
abbrev Fit {α : Type} (xs : List α) : Prop := xs.length ≤ 17592186044416

def intsOf (xs : List Int) : List (List Leaf) := xs.map fun n => [.int .i64 n]
@[simp] theorem intsOf_length (xs : List Int) : (intsOf xs).length = xs.length := by simp [intsOf]
@[simp] theorem intsOf_get (xs : List Int) (i : Nat) : (intsOf xs)[i]? = (xs[i]?).map fun n => [.int .i64 n] := by simp [intsOf]
@[simp] theorem intsOf_plain (xs : List Int) : plainR (intsOf xs) = true := plainR_map (fun _ => rfl) xs
@[simp] theorem intsOf_tree (xs : List Int) : treeR (intsOf xs) = true := treeR_map (fun _ => rfl) xs
theorem intsOf_snoc (xs : List Int) (n : Int) : intsOf xs ++ [[.int .i64 n]] = intsOf (xs ++ [n]) := by simp [intsOf]
theorem intsOf_app (xs ys : List Int) : intsOf xs ++ intsOf ys = intsOf (xs ++ ys) := by simp [intsOf]
@[simp] theorem intsOf_nil : intsOf [] = [] := rfl
@[simp] theorem sized_ints (xs : List Int) : sized 1 (intsOf xs) = true := sized_map (n := 1) (f := fun n => [.int .i64 n]) (fun _ => rfl) xs
theorem intsOf_inj {xs ys : List Int} (h : intsOf xs = intsOf ys) : xs = ys := by
  unfold intsOf at h
  exact List.map_inj_right (f := fun n : Int => [Leaf.int .i64 n]) (fun a b e => by simpa using e) |>.1 h

def pairsOf (xs : List (Int × Int)) : List (List Leaf) := xs.map fun p => [.int .i64 p.1, .int .i64 p.2]
@[simp] theorem pairsOf_length (xs : List (Int × Int)) : (pairsOf xs).length = xs.length := by simp [pairsOf]
@[simp] theorem pairsOf_nil : pairsOf [] = [] := rfl
@[simp] theorem pairsOf_get (xs : List (Int × Int)) (i : Nat) : (pairsOf xs)[i]? = (xs[i]?).map fun p => [.int .i64 p.1, .int .i64 p.2] := by simp [pairsOf]
@[simp] theorem pairsOf_plain (xs : List (Int × Int)) : plainR (pairsOf xs) = true := plainR_map (fun _ => rfl) xs
@[simp] theorem pairsOf_tree (xs : List (Int × Int)) : treeR (pairsOf xs) = true := treeR_map (fun _ => rfl) xs

theorem foldl_push {α β : Type} (f : α → β) (xs : List α) (acc : List β) : xs.foldl (fun acc x => acc ++ [f x]) acc = acc ++ xs.map f := by
  induction xs generalizing acc with
  | nil => simp
  | cons x xs ih => simp [ih]

/-- At which place something is so first. -/
def findI {α : Type} (p : Nat → α → Bool) : Nat → List α → Option Nat
  | _, [] => none
  | i, x :: xs => if p i x then some i else findI p (i + 1) xs

theorem findI_none {α : Type} {p : Nat → α → Bool} : ∀ {xs : List α} {n : Nat}, findI p n xs = none ↔ ∀ i x, xs[i]? = some x → p (n + i) x = false
  | [], n => by simp [findI]
  | x :: xs, n => by
    unfold findI
    constructor
    · intro h i y hy
      split at h
      · cases h
      · rename_i hp
        cases i with
        | zero => simp at hy; subst hy; simpa using hp
        | succ i => rw [show n + (i + 1) = n + 1 + i by omega]; exact findI_none.1 h i y (by simpa using hy)
    · intro h
      have h0 : p n x = false := h 0 x rfl
      rw [h0]
      exact findI_none.2 fun i y hy => by rw [show n + 1 + i = n + (i + 1) by omega]; exact h (i + 1) y (by simpa using hy)

theorem findI_some {α : Type} {p : Nat → α → Bool} : ∀ {xs : List α} {n k : Nat}, findI p n xs = some k → n ≤ k ∧ ∃ x, xs[k - n]? = some x ∧ p k x = true ∧ ∀ j y, j < k - n → xs[j]? = some y → p (n + j) y = false
  | [], n, k, h => by cases h
  | x :: xs, n, k, h => by
    unfold findI at h
    split at h
    · rename_i hp; cases h; exact ⟨Nat.le_refl _, x, by simp, hp, fun j y hj => by omega⟩
    · rename_i hp
      obtain ⟨h1, y, h2, h3, h4⟩ := findI_some h
      refine ⟨by omega, y, by rw [show k - n = (k - (n + 1)) + 1 by omega, List.getElem?_cons_succ]; exact h2, h3, fun j z hj hz => ?_⟩
      cases j with
      | zero => simp at hz; subst hz; simpa using hp
      | succ j => rw [show n + (j + 1) = n + 1 + j by omega]; exact h4 j z (by omega) (by simpa using hz)

theorem findI_any {α : Type} (q : α → Bool) (xs : List α) : (findI (fun _ x => q x) 0 xs).isSome = xs.any q := by
  cases h : findI (fun _ x => q x) 0 xs with
  | none =>
    rw [findI_none] at h
    symm
    simp only [Option.isSome_none, List.any_eq_false]
    intro x hx
    obtain ⟨i, hi, rfl⟩ := List.getElem_of_mem hx
    rw [h i _ (List.getElem?_eq_getElem hi)]; simp
  | some k =>
    obtain ⟨_, x, h1, h2, _⟩ := findI_some h
    symm
    simp only [Option.isSome_some, List.any_eq_true]
    exact ⟨x, List.mem_of_getElem? h1, h2⟩

/-- A loop that looks for something, and is left when it is found. -/
theorem loop_search {P : Program} {C : Cfg} {sc : Code → Code → St → CR} {N n0 : Nat} {K : List (Nat × Kd)} {c : Code} {α : Type} (xs : List α) (p : Nat → α → Bool) (en : Nat → St) (hit : Nat → AX × St) (miss : AX × St)
    (go : ∀ i x, xs[i]? = some x → i < xs.length → p i x = false → (∀ j y, j < i → xs[j]? = some y → p j y = false) → round P C sc N n0 K c (en i) = some (.normal, en (i + 1)))
    (found : ∀ i x, xs[i]? = some x → i < xs.length → p i x = true → (∀ j y, j < i → xs[j]? = some y → p j y = false) → round P C sc N n0 K c (en i) = some (hit i) ∧ (hit i).1 ≠ .normal)
    (stop : (∀ j y, xs[j]? = some y → p j y = false) → round P C sc N n0 K c (en xs.length) = some miss ∧ miss.1 ≠ .normal) :
    loopK P C sc N n0 K c (en 0) = some (match findI p 0 xs with | some i => hit i | none => miss) := by
  refine loop_fun en (fun i => i ≤ xs.length ∧ (∀ j y, j < i → xs[j]? = some y → p j y = false)) (fun i => xs.length - i) (fun _ => match findI p 0 xs with | some i => hit i | none => miss) ?_ 0 ⟨Nat.zero_le _, fun j y h => by omega⟩
  rintro i ⟨h1, h2⟩
  rcases Nat.lt_or_ge i xs.length with hi | hi
  · have hx : xs[i]? = some xs[i] := List.getElem?_eq_getElem hi
    cases hp : p i xs[i] with
    | false =>
      refine .inl ⟨i + 1, go i _ hx hi hp h2, ⟨hi, fun j y hj hy => ?_⟩, by omega, rfl⟩
      rcases Nat.lt_or_ge j i with hji | hji
      · exact h2 j y hji hy
      · have : j = i := by omega
        subst this; rw [hx] at hy; cases hy; exact hp
    | true =>
      have hf : findI p 0 xs = some i := by
        cases h : findI p 0 xs with
        | none =>
          have := findI_none.1 h i _ hx
          rw [Nat.zero_add, hp] at this; cases this
        | some k =>
          obtain ⟨_, y, k1, k2, k3⟩ := findI_some h
          simp only [Nat.sub_zero, Nat.zero_add] at k1 k2 k3
          rcases Nat.lt_trichotomy k i with hk | hk | hk
          · rw [h2 k y hk k1] at k2; cases k2
          · rw [hk]
          · have := k3 i _ hk hx
            rw [hp] at this; cases this
      rw [hf]
      exact .inr (found i _ hx hi hp h2)
  · have : i = xs.length := by omega
    subst this
    have hall : ∀ j y, xs[j]? = some y → p j y = false := fun j y hy => h2 j y (List.getElem?_eq_some_iff.1 hy).1 hy
    have hf : findI p 0 xs = none := findI_none.2 fun j y hy => by rw [Nat.zero_add]; exact hall j y hy
    rw [hf]
    exact .inr (stop hall)

/-- A loop, told by a relation between each of its states and what it comes to. -/
theorem loop_rel {P : Program} {C : Cfg} {sc : Code → Code → St → CR} {N n0 : Nat} {K : List (Nat × Kd)} {c : Code} {σ : Type} (en : σ → St) (J : σ → Prop) (μ : σ → Nat) (R : σ → AX × St → Prop)
    (step : ∀ s, J s → (∃ s', round P C sc N n0 K c (en s) = some (.normal, en s') ∧ J s' ∧ μ s' < μ s ∧ ∀ r, R s' r → R s r) ∨ ∃ r, round P C sc N n0 K c (en s) = some r ∧ r.1 ≠ .normal ∧ R s r) :
    ∀ s, J s → ∃ r, loopK P C sc N n0 K c (en s) = some r ∧ R s r := by
  have key : ∀ n s, μ s < n → J s → ∃ r, loopK P C sc N n0 K c (en s) = some r ∧ R s r := by
    intro n
    induction n with
    | zero => intro s h; omega
    | succ n ih =>
      intro s hm hJ
      rcases step s hJ with ⟨s', h1, h2, h3, h4⟩ | ⟨r, h1, h2, h3⟩
      · obtain ⟨r, k1, k2⟩ := ih s' (by omega) h2
        exact ⟨r, (iterI_next h1).trans k1, h4 r k2⟩
      · exact ⟨r, iterI_last h1 h2, h3⟩
  exact fun s h => key _ s (Nat.lt_succ_self _) h
end Go.Proofs.Ytdkknhpdjcdmfaa.Abs

/- Small functions over lists of numbers: what each answers. -/
set_option linter.unusedSimpArgs false
set_option linter.unusedVariables false
namespace Go.Proofs.Ytdkknhpdjcdmfaa.Abs
open Go Go.RowKit Go.Proofs

def hasS (h : Heap) (xs : List Int) (n : Int) (r : Bool) (i : Nat) : St := ⟨[(5, I (i : Nat)), (0, Sl (intsOf xs)), (1, I n), (4, Bo r)], h, []⟩
theorem has_loop (h : Heap) (xs : List Int) (hf : Fit xs) (n : Int) : lpK 46 Try.f46 18 0 h (hasS h xs n false 0) =
    some (match findI (fun _ x => x == n) 0 xs with | some i => (.ret, hasS h xs n true i) | none => (.exit 0, hasS h xs n false xs.length)) := by
  refine loop_search xs (fun _ x => x == n) (hasS h xs n false) (fun i => (.ret, hasS h xs n true i)) (.exit 0, hasS h xs n false xs.length) ?_ ?_ ?_
  · intro i x hx hi hp _
    simp (disch := omega) [round_eq, hasS, Try.f46, lv46, hx, hi, wrap_i64, hp, -getElem?_pos]
  · intro i x hx hi hp _
    simp (disch := omega) [round_eq, hasS, Try.f46, lv46, hx, hi, wrap_i64, hp, -getElem?_pos]
  · intro _
    simp (disch := omega) [round_eq, hasS, Try.f46, lv46]

theorem any_contains (xs : List Int) (n : Int) : (xs.any fun x => x == n) = xs.contains n := by
  induction xs with
  | nil => rfl
  | cons x xs ih => rw [List.any_cons, List.contains_cons, ih, Bool.beq_comm]

theorem has (h : Heap) (xs : List Int) (hf : Fit xs) (n : Int) : CX 46 [Sl (intsOf xs), I n] h = some (Bo (xs.contains n), h, []) := by
  refine CI_of Try.func46 rfl 0 ?_
  have hk : cfg.keep 46 = 0 := rfl
  have e := has_loop h xs hf n
  have hc : (findI (fun _ x => x == n) 0 xs).isSome = xs.contains n := by rw [findI_any, any_contains]
  rw [← hc]
  simp [hasS, lpK, lv46, Try.f46] at e
  cases hh : findI (fun _ x => x == n) 0 xs <;> rw [hh] at e <;> simp (disch := omega) [Try.f46, lv46, e, hk]

def differs {α : Type} [DecidableEq α] (ys : List α) (i : Nat) (x : α) : Bool := decide (ys[i]? ≠ some x)
def intsS (h : Heap) (xs ys : List Int) (r : Bool) (i : Nat) : St := ⟨[(0, Sl (intsOf xs)), (1, Sl (intsOf ys)), (5, I (i : Nat)), (4, Bo r)], h, []⟩
theorem ints_loop (h : Heap) (xs ys : List Int) (hf : Fit xs) (hl : xs.length = ys.length) : lpK 40 Try.f40 26 0 h (intsS h xs ys false 0) =
    some (match findI (differs ys) 0 xs with | some i => (.ret, intsS h xs ys false i) | none => (.exit 0, intsS h xs ys false xs.length)) := by
  have q := qt40
  simp [Try.f40, quietFn, quietRegs] at q
  refine loop_search xs (differs ys) (intsS h xs ys false) (fun i => (.ret, intsS h xs ys false i)) (.exit 0, intsS h xs ys false xs.length) ?_ ?_ ?_
  · intro i x hx hi hp _
    have hy : ys[i]? = some x := by simpa [differs] using hp
    simp (disch := omega) [round_eq, intsS, Try.f40, lv40, hx, hy, hi, wrap_i64, q, -getElem?_pos]
  · intro i x hx hi hp _
    obtain ⟨y, hy⟩ : ∃ y, ys[i]? = some y := ⟨ys[i]'(by omega), by simp [show i < ys.length by omega]⟩
    have hne : (x != y) = true := by simp [differs, hy] at hp ⊢; exact fun e => hp e.symm
    simp (disch := omega) [round_eq, intsS, Try.f40, lv40, hx, hy, hi, wrap_i64, hne, q, -getElem?_pos]
  · intro _
    simp (disch := omega) [round_eq, intsS, Try.f40, lv40]

theorem findI_eq {α : Type} [DecidableEq α] (xs ys : List α) (hl : xs.length = ys.length) : (findI (differs ys) 0 xs).isNone = decide (xs = ys) := by
  cases h : findI (differs ys) 0 xs with
  | none =>
    rw [findI_none] at h
    have : xs = ys := by
      apply List.ext_getElem? ; intro i
      cases hx : xs[i]? with
      | some x => have := h i x hx; simp [differs] at this; exact this.symm
      | none => rw [List.getElem?_eq_none_iff] at hx; symm; rw [List.getElem?_eq_none_iff]; omega
    simp [this]
  | some k =>
    obtain ⟨_, x, h1, h2, _⟩ := findI_some h
    have : xs ≠ ys := by rintro rfl; simp [differs] at h1 h2; exact h2 h1
    simp [this]

theorem ints (h : Heap) (xs ys : List Int) (hf : Fit xs) : CX 40 [Sl (intsOf xs), Sl (intsOf ys)] h = some (Bo (decide (xs = ys)), h, []) := by
  refine CI_of Try.func40 rfl 0 ?_
  have hk : cfg.keep 40 = 0 := rfl
  by_cases hl : xs.length = ys.length
  · have e := ints_loop h xs ys hf hl
    rw [← findI_eq xs ys hl]
    simp [intsS, lpK, lv40, Try.f40] at e
    cases hh : findI (differs ys) 0 xs <;> rw [hh] at e <;> simp (disch := omega) [Try.f40, lv40, e, hk, hl]
  · have hl' : ((xs.length : Int) != (ys.length : Int)) = true := by simp; omega
    have hne : xs ≠ ys := by rintro rfl; exact hl rfl
    simp (disch := omega) [Try.f40, lv40, hk, hl', hne]
end Go.Proofs.Ytdkknhpdjcdmfaa.Abs

/- Functions over lists of numbers and pairs: what each answers. -/
set_option linter.unusedSimpArgs false
set_option linter.unusedVariables false
namespace Go.Proofs.Ytdkknhpdjcdmfaa.Abs
open Go Go.RowKit Go.Proofs

def indexS (h : Heap) (xs : List Int) (n r : Int) (i : Nat) : St := ⟨[(0, Sl (intsOf xs)), (8, I (i : Nat)), (7, I (xs.length : Nat)), (1, I n), (4, I r)], h, []⟩
theorem index_loop (h : Heap) (xs : List Int) (hf : Fit xs) (n : Int) : lpK 70 Try.f70 19 0 h (indexS h xs n 0 0) =
    some (match findI (fun _ x => n == x) 0 xs with | some i => (.ret, indexS h xs n i i) | none => (.exit 0, indexS h xs n 0 xs.length)) := by
  refine loop_search xs (fun _ x => n == x) (indexS h xs n 0) (fun i => (.ret, indexS h xs n i i)) (.exit 0, indexS h xs n 0 xs.length) ?_ ?_ ?_
  · intro i x hx hi hp _
    simp (disch := omega) [round_eq, indexS, Try.f70, lv70, hx, hi, wrap_i64, hp, -getElem?_pos]
  · intro i x hx hi hp _
    simp (disch := omega) [round_eq, indexS, Try.f70, lv70, hx, hi, wrap_i64, hp, -getElem?_pos]
  · intro _
    simp (disch := omega) [round_eq, indexS, Try.f70, lv70]

/-- At which place a number stands first; -1: at none. -/
def idxI (xs : List Int) (n : Int) : Int := match findI (fun _ x => n == x) 0 xs with | some i => (i : Int) | none => -1
theorem index (h : Heap) (xs : List Int) (hf : Fit xs) (n : Int) : CX 70 [Sl (intsOf xs), I n] h = some (I (idxI xs n), h, []) := by
  refine CI_of Try.func70 rfl 0 ?_
  have hk : cfg.keep 70 = 0 := rfl
  have e := index_loop h xs hf n
  simp [indexS, lpK, lv70, Try.f70] at e
  unfold idxI
  cases hh : findI (fun _ x => n == x) 0 xs <;> rw [hh] at e <;> simp (disch := omega) [Try.f70, lv70, e, hk]

theorem idxI_ge (xs : List Int) (n : Int) : decide (idxI xs n ≥ 0) = xs.contains n := by
  have h := findI_any (fun x => n == x) xs
  have : (xs.any fun x => n == x) = xs.contains n := by rw [← any_contains]; congr 1; funext x; exact Bool.beq_comm
  rw [this] at h
  unfold idxI
  cases hh : findI (fun _ x => n == x) 0 xs with
  | none => rw [hh] at h; rw [← h]; rfl
  | some i => rw [hh] at h; rw [← h]; simp

theorem contains (h : Heap) (xs : List Int) (hf : Fit xs) (n : Int) : CX 67 [Sl (intsOf xs), I n] h = some (Bo (xs.contains n), h, []) := by
  refine CI_of Try.func67 rfl 0 ?_
  have hk : cfg.keep 67 = 0 := rfl
  rw [← idxI_ge]
  simp (disch := omega) [Try.f67, hk, index _ xs hf n]

/-- The number ahead of a place; -1 ahead of the first. -/
def aheadI (xs : List Int) (i : Nat) : Int := if i = 0 then -1 else xs.getD (i - 1) 0
theorem aheadI_succ {xs : List Int} {i : Nat} {x : Int} (hx : xs[i]? = some x) : aheadI xs (i + 1) = x := by simp [aheadI, List.getD, hx]
def fallsI (size : Int) (xs : List Int) (i : Nat) (x : Int) : Bool := decide (x ≤ aheadI xs i) || decide (x ≥ size)
/-- Do numbers rise, from 0 on, up to below a size? -/
def rises (size : Int) (xs : List Int) : Bool := (findI (fallsI size xs) 0 xs).isNone

def risingS (h : Heap) (xs : List Int) (size : Int) (i : Nat) : St := ⟨[(10, I (i : Nat)), (9, I (xs.length : Nat)), (8, Sl (intsOf xs)), (5, I (aheadI xs i)), (1, I size), (4, Bo false)], h, []⟩
theorem rising_loop (h : Heap) (xs : List Int) (hf : Fit xs) (size : Int) : lpK 94 Try.f94 24 0 h (risingS h xs size 0) =
    some (match findI (fallsI size xs) 0 xs with | some i => (.ret, risingS h xs size i) | none => (.exit 0, risingS h xs size xs.length)) := by
  refine loop_search xs (fallsI size xs) (risingS h xs size) (fun i => (.ret, risingS h xs size i)) (.exit 0, risingS h xs size xs.length) ?_ ?_ ?_
  · intro i x hx hi hp _
    simp [fallsI] at hp
    simp (disch := omega) [round_eq, risingS, Try.f94, lv94, hx, hi, wrap_i64, show ¬ x ≤ aheadI xs i by omega, show ¬ size ≤ x by omega, aheadI_succ hx, -getElem?_pos]
  · intro i x hx hi hp _
    simp [fallsI] at hp
    by_cases h1 : x ≤ aheadI xs i
    · simp (disch := omega) [round_eq, risingS, Try.f94, lv94, hx, hi, wrap_i64, h1, -getElem?_pos]
    · simp (disch := omega) [round_eq, risingS, Try.f94, lv94, hx, hi, wrap_i64, h1, show size ≤ x by omega, -getElem?_pos]
  · intro _
    simp (disch := omega) [round_eq, risingS, Try.f94, lv94]

theorem rising (h : Heap) (xs : List Int) (hf : Fit xs) (size : Int) : CX 94 [Sl (intsOf xs), I size] h = some (Bo (rises size xs), h, []) := by
  refine CI_of Try.func94 rfl 0 ?_
  have hk : cfg.keep 94 = 0 := rfl
  have e := rising_loop h xs hf size
  have ha : aheadI xs 0 = -1 := rfl
  simp [risingS, lpK, lv94, Try.f94, ha] at e
  unfold rises
  cases hh : findI (fallsI size xs) 0 xs <;> rw [hh] at e <;> simp (disch := omega) [Try.f94, lv94, e, hk]

def fallsI' (size : Int) (xs : List Int) (i : Nat) (x : Int) : Bool := decide (x < 0) || decide (x ≥ size) || (decide (i > 0) && decide (x ≤ xs.getD (i - 1) 0))
def risingS' (h : Heap) (xs : List Int) (size : Int) (i : Nat) : St := ⟨[(5, I (i : Nat)), (0, Sl (intsOf xs)), (1, I size), (4, Bo false)], h, []⟩
theorem rising_loop' (h : Heap) (xs : List Int) (hf : Fit xs) (size : Int) : lpK 95 Try.f95 41 0 h (risingS' h xs size 0) =
    some (match findI (fallsI' size xs) 0 xs with | some i => (.ret, risingS' h xs size i) | none => (.exit 0, risingS' h xs size xs.length)) := by
  have q := qt95
  simp [Try.f95, quietFn, quietRegs] at q
  refine loop_search xs (fallsI' size xs) (risingS' h xs size) (fun i => (.ret, risingS' h xs size i)) (.exit 0, risingS' h xs size xs.length) ?_ ?_ ?_
  · intro i x hx hi hp _
    simp [fallsI'] at hp
    rcases Nat.eq_zero_or_pos i with h0 | h0
    · simp (disch := omega) [round_eq, risingS', Try.f95, lv95, hx, hi, wrap_i64, q, show ¬ x < 0 by omega, show ¬ size ≤ x by omega, show ¬ 0 < i by omega, -getElem?_pos]
    · obtain ⟨y, hy⟩ : ∃ y, xs[i - 1]? = some y := ⟨xs[i - 1]'(by omega), List.getElem?_eq_getElem (by omega)⟩
      have hc : ((i : Int) - 1) = ((i - 1 : Nat) : Int) := by omega
      have hyx : ¬ x ≤ y := by have := hp.2 h0; simp [List.getD, hy] at this; omega
      simp (disch := omega) [round_eq, risingS', Try.f95, lv95, hx, hi, wrap_i64, q, show ¬ x < 0 by omega, show ¬ size ≤ x by omega, h0, hc, hy, hyx, -getElem?_pos]
  · intro i x hx hi hp _
    simp [fallsI'] at hp
    by_cases h1 : x < 0
    · simp (disch := omega) [round_eq, risingS', Try.f95, lv95, hx, hi, wrap_i64, q, h1, -getElem?_pos]
    by_cases h2 : size ≤ x
    · simp (disch := omega) [round_eq, risingS', Try.f95, lv95, hx, hi, wrap_i64, q, h1, h2, -getElem?_pos]
    have h0 : 0 < i := by omega
    obtain ⟨y, hy⟩ : ∃ y, xs[i - 1]? = some y := ⟨xs[i - 1]'(by omega), List.getElem?_eq_getElem (by omega)⟩
    have hc : ((i : Int) - 1) = ((i - 1 : Nat) : Int) := by omega
    have hyx : x ≤ y := by rcases hp with h | h; omega; have := h.2; simp [List.getD, hy] at this; exact this
    simp (disch := omega) [round_eq, risingS', Try.f95, lv95, hx, hi, wrap_i64, q, h1, h2, h0, hc, hy, hyx, -getElem?_pos]
  · intro _
    simp (disch := omega) [round_eq, risingS', Try.f95, lv95]

theorem falls_same {size : Int} {xs : List Int} {i : Nat} (hb : ∀ j y, j < i → xs[j]? = some y → fallsI size xs j y = false) {x : Int} (hx : xs[i]? = some x) : fallsI' size xs i x = fallsI size xs i x := by
  unfold fallsI fallsI'
  rcases Nat.eq_zero_or_pos i with h0 | h0
  · subst h0
    simp only [aheadI]
    by_cases h : x < 0 <;> simp [h] <;> omega
  · obtain ⟨y, hy⟩ : ∃ y, xs[i - 1]? = some y := by
      have := (List.getElem?_eq_some_iff.1 hx).1
      exact ⟨xs[i - 1]'(by omega), List.getElem?_eq_getElem (by omega)⟩
    have h1 := hb (i - 1) y (by omega) hy
    have hpos : ∀ j y, j < i → xs[j]? = some y → 0 ≤ y := by
      intro j
      induction j with
      | zero => intro y hj hy; have := hb 0 y hj hy; simp [fallsI, aheadI] at this; omega
      | succ j ih =>
        intro y hj hy
        obtain ⟨z, hz⟩ : ∃ z, xs[j]? = some z := by
          have := (List.getElem?_eq_some_iff.1 hy).1
          exact ⟨xs[j]'(by omega), List.getElem?_eq_getElem (by omega)⟩
        have h2 := ih z (by omega) hz
        have h3 := hb (j + 1) y hj hy
        rw [fallsI, aheadI_succ hz] at h3
        simp at h3; omega
    have h2 := hpos (i - 1) y (by omega) hy
    simp only [aheadI, show ¬ i = 0 by omega, if_false, List.getD, hy, Option.getD_some]
    by_cases h3 : x ≤ y
    · simp [h3, h0]
    · simp [h3, h0, show ¬ x < 0 by omega]

theorem findI_same {α : Type} {p q : Nat → α → Bool} {xs : List α} (h : ∀ i x, xs[i]? = some x → (∀ j y, j < i → xs[j]? = some y → p j y = false) → q i x = p i x) : findI q 0 xs = findI p 0 xs := by
  cases hp : findI p 0 xs with
  | none =>
    rw [findI_none] at hp ⊢
    intro i x hx
    rw [Nat.zero_add] at *
    have := hp i x hx
    rw [Nat.zero_add] at this
    rw [h i x hx fun j y hj hy => by have := hp j y hy; rwa [Nat.zero_add] at this]; exact this
  | some k =>
    obtain ⟨_, x, h1, h2, h3⟩ := findI_some hp
    simp only [Nat.sub_zero, Nat.zero_add] at h1 h2 h3
    have hq : ∀ j y, j < k → xs[j]? = some y → q j y = false := fun j y hj hy => by
      rw [h j y hy fun j' y' hj' hy' => h3 j' y' (by omega) hy']; exact h3 j y hj hy
    have hk : q k x = true := by rw [h k x h1 fun j y hj hy => h3 j y hj hy]; exact h2
    cases hq' : findI q 0 xs with
    | none =>
      have := findI_none.1 hq' k x h1
      rw [Nat.zero_add, hk] at this; cases this
    | some m =>
      obtain ⟨_, y, g1, g2, g3⟩ := findI_some hq'
      simp only [Nat.sub_zero, Nat.zero_add] at g1 g2 g3
      rcases Nat.lt_trichotomy m k with hm | hm | hm
      · rw [hq m y hm g1] at g2; cases g2
      · rw [hm]
      · have := g3 k x hm h1
        rw [hk] at this; cases this

theorem rising' (h : Heap) (xs : List Int) (hf : Fit xs) (size : Int) : CX 95 [Sl (intsOf xs), I size] h = some (Bo (rises size xs), h, []) := by
  refine CI_of Try.func95 rfl 0 ?_
  have hk : cfg.keep 95 = 0 := rfl
  have e := rising_loop' h xs hf size
  rw [findI_same fun i x hx hb => falls_same hb hx] at e
  simp [risingS', lpK, lv95, Try.f95] at e
  unfold rises
  cases hh : findI (fallsI size xs) 0 xs <;> rw [hh] at e <;> simp (disch := omega) [Try.f95, lv95, e, hk]

def dersS (h : Heap) (xs : List (Int × Int)) (i : Nat) (acc : List Int) : St := ⟨[(4, I (i : Nat)), (0, Sl (pairsOf xs)), (3, .one (.sl h.length 1 acc.length 0 acc.length))], h ++ [some (.row 1 (intsOf acc))], []⟩
theorem ders_loop (h : Heap) (xs : List (Int × Int)) (hf : Fit xs) : lpK 96 Try.f96 20 0 h (dersS h xs 0 []) = some (.exit 0, dersS h xs xs.length (xs.map (·.1))) := by
  have := foldl_push (·.1) xs []
  rw [List.nil_append] at this
  rw [← this]
  refine loop_list xs (fun acc x => acc ++ [x.1]) (dersS h xs) (fun acc => (.exit 0, dersS h xs xs.length acc)) (fun i acc => acc.length = i) ?_ ?_ [] rfl
  · intro i acc x hi hj
    subst hj
    have hl : acc.length < xs.length := (List.getElem?_eq_some_iff.1 hi).1
    simp (disch := omega) [round_eq, dersS, Try.f96, lv96, hi, hl, wrap_i64, room_of, intsOf_snoc, -getElem?_pos]
  · intro acc hj
    simp (disch := omega) [round_eq, dersS, Try.f96, lv96]

theorem ders (h : Heap) (xs : List (Int × Int)) (hf : Fit xs) : CX 96 [Sl (pairsOf xs)] h = some (Sl (intsOf (xs.map (·.1))), h, []) := by
  refine CI_of Try.func96 rfl 0 ?_
  have hk : cfg.keep 96 = 0 := rfl
  have e := ders_loop h xs hf
  simp [dersS, lpK, lv96, Try.f96] at e
  simp (disch := omega) [Try.f96, lv96, e, hk]

def pairsS (h : Heap) (xs ys : List (Int × Int)) (r : Bool) (i : Nat) : St := ⟨[(0, Sl (pairsOf xs)), (1, Sl (pairsOf ys)), (5, I (i : Nat)), (4, Bo r)], h, []⟩
theorem pairs_loop (h : Heap) (xs ys : List (Int × Int)) (hf : Fit xs) (hl : xs.length = ys.length) : lpK 63 Try.f63 26 0 h (pairsS h xs ys false 0) =
    some (match findI (differs ys) 0 xs with | some i => (.ret, pairsS h xs ys false i) | none => (.exit 0, pairsS h xs ys false xs.length)) := by
  have q := qt63
  simp [Try.f63, quietFn, quietRegs] at q
  refine loop_search xs (differs ys) (pairsS h xs ys false) (fun i => (.ret, pairsS h xs ys false i)) (.exit 0, pairsS h xs ys false xs.length) ?_ ?_ ?_
  · intro i x hx hi hp _
    have hy : ys[i]? = some x := by simpa [differs] using hp
    simp (disch := omega) [round_eq, pairsS, Try.f63, lv63, hx, hy, hi, wrap_i64, q, -getElem?_pos]
  · intro i x hx hi hp _
    obtain ⟨y, hy⟩ : ∃ y, ys[i]? = some y := ⟨ys[i]'(by omega), by simp [show i < ys.length by omega]⟩
    have hne : x ≠ y := by rintro rfl; simp [differs, hy] at hp
    obtain ⟨x1, x2⟩ := x
    obtain ⟨y1, y2⟩ := y
    by_cases h1 : x1 = y1
    · have h2 : (x2 == y2) = false := by simp; intro h2; exact hne (by rw [h1, h2])
      simp (disch := omega) [round_eq, pairsS, Try.f63, lv63, hx, hy, hi, wrap_i64, h1, h2, q, -getElem?_pos]
    · have h1' : (x1 == y1) = false := by simp [h1]
      simp (disch := omega) [round_eq, pairsS, Try.f63, lv63, hx, hy, hi, wrap_i64, h1', q, -getElem?_pos]
  · intro _
    simp (disch := omega) [round_eq, pairsS, Try.f63, lv63]

theorem pairs (h : Heap) (xs ys : List (Int × Int)) (hf : Fit xs) : CX 63 [Sl (pairsOf xs), Sl (pairsOf ys)] h = some (Bo (decide (xs = ys)), h, []) := by
  refine CI_of Try.func63 rfl 0 ?_
  have hk : cfg.keep 63 = 0 := rfl
  by_cases hl : xs.length = ys.length
  · have e := pairs_loop h xs ys hf hl
    rw [← findI_eq xs ys hl]
    simp [pairsS, lpK, lv63, Try.f63] at e
    cases hh : findI (differs ys) 0 xs <;> rw [hh] at e <;> simp (disch := omega) [Try.f63, lv63, e, hk, hl]
  · have hl' : ((xs.length : Int) != (ys.length : Int)) = true := by simp; omega
    have hne : xs ≠ ys := by rintro rfl; exact hl rfl
    simp (disch := omega) [Try.f63, lv63, hk, hl', hne]

theorem isNaN (h : Heap) (a : Int) : CX 97 [I a] h = some (Bo false, h, []) := by
  refine CI_of Try.func97 rfl 0 ?_
  have hk : cfg.keep 97 = 0 := rfl
  simp [Try.f97, hk]

def cmpI (a b : Int) : Int := if a < b then -1 else if b < a then 1 else 0
theorem compare (h : Heap) (a b : Int) : CX 62 [I a, I b] h = some (I (cmpI a b), h, []) := by
  refine CI_of Try.func62 rfl 0 ?_
  have hk : cfg.keep 62 = 0 := rfl
  by_cases h1 : a < b
  · simp [Try.f62, hk, isNaN, cmpI, h1]
  · by_cases h2 : b < a <;> simp [Try.f62, hk, isNaN, cmpI, h1, h2]
end Go.Proofs.Ytdkknhpdjcdmfaa.Abs

/- Maps: how large they are; whether an entry may be. -/
set_option linter.unusedSimpArgs false
set_option linter.unusedVariables false
namespace Go.Proofs.Ytdkknhpdjcdmfaa.Abs
open Go Go.RowKit Go.Proofs

structure Ent where
  n : Int
  f : Int
  ps : List Int
  ds : List (Int × Int)
structure Mps where
  sizes : List Int
  es : List Ent

def encEnt (e : Ent) : List Leaf := [.int .i64 e.n, .int .i64 e.f, .isl (intsOf e.ps), .isl (pairsOf e.ds)]
def entsOf (es : List Ent) : List (List Leaf) := es.map encEnt
def encMps (m : Mps) : List Leaf := [.isl (intsOf m.sizes), .isl (entsOf m.es)]
@[simp] theorem entsOf_length (es : List Ent) : (entsOf es).length = es.length := by simp [entsOf]
@[simp] theorem entsOf_get (es : List Ent) (i : Nat) : (entsOf es)[i]? = (es[i]?).map encEnt := by simp [entsOf]
@[simp] theorem entsOf_plain (es : List Ent) : plainR (entsOf es) = true := plainR_map (fun _ => rfl) es

@[simp] theorem encEnt_plain (e : Ent) : plainC (encEnt e) = true := rfl
@[simp] theorem encMps_plain (m : Mps) : plainC (encMps m) = true := rfl
@[simp] theorem encEnt_length (e : Ent) : (encEnt e).length = 4 := rfl
@[simp] theorem encMps_length (m : Mps) : (encMps m).length = 2 := rfl
@[simp] theorem entsOf_tree (es : List Ent) : treeR (entsOf es) = true := treeR_map (fun _ => rfl) es
@[simp] theorem encEnt_tree (e : Ent) : treeC (encEnt e) = true := rfl
@[simp] theorem encMps_tree (m : Mps) : treeC (encMps m) = true := rfl

structure Ent.Ok (e : Ent) : Prop where
  ps : Fit e.ps
  ds : Fit e.ds
structure Mps.Ok (m : Mps) : Prop where
  sizes : Fit m.sizes
  es : Fit m.es
  each : ∀ e, e ∈ m.es → e.Ok

/-- How large maps are, no further than so much. -/
def weigh (top : Int) : List Ent → Int → Int
  | [], n => n
  | e :: es, n => if n ≤ top then weigh top es (n + 1 + e.ps.length + e.ds.length) else n

def weightS (h : Heap) (m : Mps) (s : Nat × Int) : St := ⟨[(2, .one (.ptr h.length 1 0 0)), (6, I (s.1 : Nat)), (5, I s.2), (1, I 200)], h ++ [some (.row 2 [encMps m])], []⟩

theorem weight_loop (h : Heap) (m : Mps) (hm : m.Ok) : ∃ i, lpK 57 Try.f57 41 0 h (weightS h m (0, m.sizes.length)) = some (.exit 0, weightS h m (i, weigh 200 m.es m.sizes.length)) := by
  have q := qt57
  simp [Try.f57, quietFn, quietRegs] at q
  have := loop_rel (P := Try.prog) (C := cfg) (sc := runScope Try.prog cfg 41 h.length (cfg.live 57) 0) (N := 41) (n0 := h.length) (K := cfg.live 57) (c := loopAt Try.f57 0) (weightS h m)
    (fun s => s.1 ≤ m.es.length ∧ 0 ≤ s.2) (fun s => m.es.length - s.1) (fun s r => ∃ i, r = (.exit 0, weightS h m (i, weigh 200 (m.es.drop s.1) s.2))) ?_ (0, (m.sizes.length : Int)) ⟨Nat.zero_le _, by simp⟩
  · obtain ⟨r, h1, i, rfl⟩ := this
    exact ⟨i, h1⟩
  rintro ⟨i, w⟩ ⟨j1, j2⟩
  have := hm.es
  simp only at j1 j2 ⊢
  by_cases hi : i < m.es.length
  · by_cases hw : w ≤ 200
    · obtain ⟨e, he⟩ : ∃ e, m.es[i]? = some e := ⟨m.es[i], by simp [hi]⟩
      have ok := hm.each e (List.mem_of_getElem? he)
      have h1 := ok.ps
      have h2 := ok.ds
      have he' : m.es[i] = e := by simpa [hi] using he
      refine .inl ⟨(i + 1, w + 1 + e.ps.length + e.ds.length), ?_, ⟨hi, by simp only; omega⟩, by simp only; omega, fun r hr => ?_⟩
      · simp (disch := omega) [round_eq, weightS, encMps, encEnt, Try.f57, lv57, q, hi, hw, he, wrap_i64, -getElem?_pos]
      · rw [List.drop_eq_getElem_cons hi, weigh, if_pos hw, he']; exact hr
    · refine .inr ⟨(.exit 0, weightS h m (i, w)), ?_, by simp, i, ?_⟩
      · simp (disch := omega) [round_eq, weightS, encMps, Try.f57, lv57, q, hi, hw, wrap_i64, -getElem?_pos]
      · rw [List.drop_eq_getElem_cons hi, weigh, if_neg hw]
  · refine .inr ⟨(.exit 0, weightS h m (i, w)), ?_, by simp, i, ?_⟩
    · simp (disch := omega) [round_eq, weightS, encMps, Try.f57, lv57, q, hi, wrap_i64, -getElem?_pos]
    · rw [List.drop_eq_nil_of_le (by omega), weigh]

theorem weight (h : Heap) (m : Mps) (hm : m.Ok) : CX 57 [.agg (encMps m), I 200] h = some (I (weigh 200 m.es m.sizes.length), h, []) := by
  refine CI_of Try.func57 rfl 0 ?_
  have hk : cfg.keep 57 = 0 := rfl
  obtain ⟨i, e⟩ := weight_loop h m hm
  simp [weightS, encMps, lpK, lv57, Try.f57] at e
  simp (disch := omega) [encMps, Try.f57, lv57, e, hk]

theorem light (h : Heap) (m : Mps) (hm : m.Ok) : CX 20 [.agg (encMps m)] h = some (Bo (decide (weigh 200 m.es m.sizes.length ≤ 200)), h, []) := by
  refine CI_of Try.func20 rfl 0 ?_
  have hk : cfg.keep 20 = 0 := rfl
  have e := weight [] m hm
  simp [encMps] at e
  simp (disch := omega) [encMps, Try.f20, hk, e]
end Go.Proofs.Ytdkknhpdjcdmfaa.Abs

/- Maps: whether an entry may be, as both say. -/
set_option linter.unusedSimpArgs false
set_option linter.unusedVariables false
namespace Go.Proofs.Ytdkknhpdjcdmfaa.Abs
open Go Go.RowKit Go.Proofs

def badDer (ps : List Int) (_ : Nat) (d : Int × Int) : Bool := !ps.contains d.2 || ps.contains d.1

def entryF (sizes : List Int) (e : Ent) : Int :=
  if e.f < 0 ∨ (sizes.length : Int) ≤ e.f then 12 else
  if (findI (badDer e.ps) 0 e.ds).isSome then 8 else
  if rises (sizes.getD e.f.toNat 0) e.ps && rises (sizes.getD e.f.toNat 0) (e.ds.map (·.1)) then 0 else 19

def entryS (h : Heap) (m : Mps) (e : Ent) (r : Int) (i : Nat) : St := ⟨[(3, .one (.ptr h.length 1 0 0)), (2, .one (.ptr (h.length + 1) 1 0 0)), (5, I (i : Nat)), (4, I r)], h ++ [some (.row 4 [encEnt e]), some (.row 2 [encMps m])], []⟩
theorem entry_loop' (h : Heap) (m : Mps) (e : Ent) (he : e.Ok) : lpK 59 Try.f59 68 0 h (entryS h m e 0 0) =
    some (match findI (badDer e.ps) 0 e.ds with | some i => (.ret, entryS h m e 8 i) | none => (.exit 0, entryS h m e 0 e.ds.length)) := by
  have q := qt59
  simp [Try.f59, quietFn, quietRegs] at q
  have h1 := he.ds
  have h2 := he.ps
  refine loop_search e.ds (badDer e.ps) (entryS h m e 0) (fun i => (.ret, entryS h m e 8 i)) (.exit 0, entryS h m e 0 e.ds.length) ?_ ?_ ?_
  · intro i x hx hi hp _
    simp only [badDer, Bool.or_eq_false_iff, Bool.not_eq_false'] at hp
    simp (disch := omega) [round_eq, entryS, encEnt, Try.f59, lv59, hx, hi, wrap_i64, q, has _ e.ps h2, hp.1, hp.2, -getElem?_pos, -List.contains_eq_mem]
  · intro i x hx hi hp _
    by_cases hc : e.ps.contains x.2 = true
    · have hp' : e.ps.contains x.1 = true := by simpa only [badDer, hc, Bool.not_true, Bool.false_or] using hp
      simp (disch := omega) [round_eq, entryS, encEnt, Try.f59, lv59, hx, hi, wrap_i64, q, has _ e.ps h2, hc, hp', -getElem?_pos, -List.contains_eq_mem]
    · rw [Bool.not_eq_true] at hc
      simp (disch := omega) [round_eq, entryS, encEnt, Try.f59, lv59, hx, hi, wrap_i64, q, has _ e.ps h2, hc, -getElem?_pos, -List.contains_eq_mem]
  · intro _
    simp (disch := omega) [round_eq, entryS, encEnt, Try.f59, lv59]

theorem entry' (h : Heap) (m : Mps) (hm : m.Ok) (e : Ent) (he : e.Ok) : CX 59 [.agg (encMps m), .agg (encEnt e)] h = some (I (entryF m.sizes e), h, []) := by
  refine CI_of Try.func59 rfl 0 ?_
  have hk : cfg.keep 59 = 0 := rfl
  have q := qt59
  simp [Try.f59, quietFn, quietRegs] at q
  have h1 := he.ds
  have h2 := he.ps
  have h3 : Fit (e.ds.map (·.1)) := by simpa [Fit] using h1
  have hs := hm.sizes
  by_cases c1 : e.f < 0
  · simp (disch := omega) [Try.f59, lv59, hk, q, encEnt, encMps, entryF, c1]
  by_cases c2 : (m.sizes.length : Int) ≤ e.f
  · simp (disch := omega) [Try.f59, lv59, hk, q, encEnt, encMps, entryF, c1, c2]
  have g := entry_loop' h m e he
  simp [entryS, encEnt, encMps, lpK, lv59, Try.f59] at g
  have c3 : 0 ≤ e.f := by omega
  obtain ⟨s, hs'⟩ : ∃ s, m.sizes[e.f.toNat]? = some s := ⟨m.sizes[e.f.toNat]'(by omega), List.getElem?_eq_getElem (by omega)⟩
  cases hh : findI (badDer e.ps) 0 e.ds with
  | some i =>
    rw [hh] at g
    simp (disch := omega) [Try.f59, lv59, hk, q, encEnt, encMps, entryF, c1, c2, hh, g]
  | none =>
    rw [hh] at g
    cases r1 : rises s e.ps with
    | false => simp (disch := omega) [Try.f59, lv59, hk, q, encEnt, encMps, entryF, c1, c2, c3, hh, g, hs', List.getD, rising' _ _ h2, r1, -getElem?_pos]
    | true =>
      cases r2 : rises s (e.ds.map (·.1)) <;>
      simp (disch := omega) [Try.f59, lv59, hk, q, encEnt, encMps, entryF, c1, c2, c3, hh, g, hs', List.getD, rising' _ _ h2, rising' _ _ h3, ders _ _ h1, r1, r2, -getElem?_pos]
end Go.Proofs.Ytdkknhpdjcdmfaa.Abs

/- Maps: whether they may be, as both say. -/
set_option linter.unusedSimpArgs false
set_option linter.unusedVariables false
namespace Go.Proofs.Ytdkknhpdjcdmfaa.Abs
open Go Go.RowKit Go.Proofs

def mentryS (h : Heap) (m : Mps) (e : Ent) (r : Int) (i : Nat) (acc : List Int) : St := ⟨[(3, .one (.ptr h.length 1 0 0)), (2, .one (.ptr (h.length + 1) 1 0 0)), (22, I (i : Nat)), (21, I (e.ds.length : Nat)), (20, Sl (pairsOf e.ds)), (5, .one (.sl (h.length + 2) 1 acc.length 0 acc.length)), (4, I r)],
  h ++ [some (.row 4 [encEnt e]), some (.row 2 [encMps m]), some (.row 1 (intsOf acc))], []⟩
theorem take_snoc {α β : Type} (f : α → β) {xs : List α} {i : Nat} {x : α} (hx : xs[i]? = some x) : ((xs.take (i + 1)).map f) = (xs.take i).map f ++ [f x] := by
  rw [List.take_add_one, hx]; simp
theorem mentry_loop (h : Heap) (m : Mps) (e : Ent) (he : e.Ok) : lpK 58 Try.f58 66 0 h (mentryS h m e 0 0 []) =
    some (match findI (badDer e.ps) 0 e.ds with | some i => (.ret, mentryS h m e 8 i ((e.ds.take (i + 1)).map (·.1))) | none => (.exit 0, mentryS h m e 0 e.ds.length (e.ds.map (·.1)))) := by
  have q := qt58
  simp [Try.f58, quietFn, quietRegs] at q
  have h1 := he.ds
  have h2 := he.ps
  refine loop_search e.ds (badDer e.ps) (fun i => mentryS h m e 0 i ((e.ds.take i).map (·.1))) (fun i => (.ret, mentryS h m e 8 i ((e.ds.take (i + 1)).map (·.1)))) (.exit 0, mentryS h m e 0 e.ds.length (e.ds.map (·.1))) ?_ ?_ ?_
  · intro i x hx hi hp _
    simp only [badDer, Bool.or_eq_false_iff, Bool.not_eq_false'] at hp
    have hm : min i e.ds.length = i := by omega
    rw [take_snoc _ hx]
    simp (disch := omega) [round_eq, mentryS, encEnt, Try.f58, lv58, hx, hi, hm, wrap_i64, room_of, intsOf_snoc, q, contains _ e.ps h2, hp.1, hp.2, -getElem?_pos, -List.contains_eq_mem]
  · intro i x hx hi hp _
    have hm : min i e.ds.length = i := by omega
    rw [take_snoc _ hx]
    by_cases hc : e.ps.contains x.2 = true
    · have hp' : e.ps.contains x.1 = true := by simpa only [badDer, hc, Bool.not_true, Bool.false_or] using hp
      simp (disch := omega) [round_eq, mentryS, encEnt, Try.f58, lv58, hx, hi, hm, wrap_i64, room_of, intsOf_snoc, q, contains _ e.ps h2, hc, hp', -getElem?_pos, -List.contains_eq_mem]
    · rw [Bool.not_eq_true] at hc
      simp (disch := omega) [round_eq, mentryS, encEnt, Try.f58, lv58, hx, hi, hm, wrap_i64, room_of, intsOf_snoc, q, contains _ e.ps h2, hc, -getElem?_pos, -List.contains_eq_mem]
  · intro _
    simp (disch := omega) [round_eq, mentryS, encEnt, Try.f58, lv58]

theorem mentry (h : Heap) (m : Mps) (hm : m.Ok) (e : Ent) (he : e.Ok) : CX 58 [.agg (encMps m), .agg (encEnt e)] h = some (I (entryF m.sizes e), h, []) := by
  refine CI_of Try.func58 rfl 0 ?_
  have hk : cfg.keep 58 = 0 := rfl
  have q := qt58
  simp [Try.f58, quietFn, quietRegs] at q
  have h1 := he.ds
  have h2 := he.ps
  have h3 : Fit (e.ds.map (·.1)) := by simpa [Fit] using h1
  have hs := hm.sizes
  by_cases c1 : e.f < 0
  · simp (disch := omega) [Try.f58, lv58, hk, q, encEnt, encMps, entryF, c1]
  by_cases c2 : (m.sizes.length : Int) ≤ e.f
  · simp (disch := omega) [Try.f58, lv58, hk, q, encEnt, encMps, entryF, c1, c2]
  have g := mentry_loop h m e he
  simp [mentryS, encEnt, encMps, lpK, lv58, Try.f58] at g
  have c3 : 0 ≤ e.f := by omega
  obtain ⟨s, hs'⟩ : ∃ s, m.sizes[e.f.toNat]? = some s := ⟨m.sizes[e.f.toNat]'(by omega), List.getElem?_eq_getElem (by omega)⟩
  cases hh : findI (badDer e.ps) 0 e.ds with
  | some i =>
    rw [hh] at g
    simp (disch := omega) [Try.f58, lv58, hk, q, encEnt, encMps, entryF, c1, c2, hh, g]
  | none =>
    rw [hh] at g
    cases r1 : rises s e.ps with
    | false => simp (disch := omega) [Try.f58, lv58, hk, q, encEnt, encMps, entryF, c1, c2, c3, hh, g, hs', List.getD, rising _ _ h2, r1, -getElem?_pos]
    | true =>
      cases r2 : rises s (e.ds.map (·.1)) <;>
      simp (disch := omega) [Try.f58, lv58, hk, q, encEnt, encMps, entryF, c1, c2, c3, hh, g, hs', List.getD, rising _ _ h2, rising _ _ h3, r1, r2, -getElem?_pos]

/-- What is wrong with maps, and where. -/
def badSize (_ : Nat) (n : Int) : Bool := decide (n < 0) || decide (n > 4096)
def lastN (es : List Ent) (i : Nat) : Int := if i = 0 then 0 else match es[i - 1]? with | some e => e.n | none => 0
def badEnt (m : Mps) (i : Nat) (e : Ent) : Bool := decide (e.n ≤ lastN m.es i) || decide (e.n > 1048576) || decide (entryF m.sizes e ≠ 0)
def checkF (m : Mps) : Int × Int :=
  if 32 < m.sizes.length then (6, m.sizes.length) else
  match findI badSize 0 m.sizes with
  | some i => (18, i)
  | none => match findI (badEnt m) 0 m.es with
    | some i => match m.es[i]? with
      | some e => (if e.n ≤ lastN m.es i ∨ e.n > 1048576 then 19 else entryF m.sizes e, (m.sizes.length : Int) + i)
      | none => (0, 0)
    | none => (0, 0)
theorem lastN_succ {es : List Ent} {i : Nat} {e : Ent} (hx : es[i]? = some e) : lastN es (i + 1) = e.n := by simp [lastN, hx]

def checkS (h : Heap) (m : Mps) (r : Int × Int) (i : Nat) : St := ⟨[(1, .one (.ptr h.length 1 0 0)), (2, .one (.ptr (h.length + 1) 1 0 0)), (21, I (i : Nat)), (20, I (m.sizes.length : Nat)), (19, Sl (intsOf m.sizes)), (38, .junk), (37, .junk), (36, .junk), (5, .junk)],
  h ++ [some (.row 2 [encMps m]), some (.row 2 [[.int .i64 r.1, .int .i64 r.2]])], []⟩
theorem check_sizes (h : Heap) (m : Mps) (hm : m.Ok) : lpK 22 Try.f22 71 0 h (checkS h m (0, 0) 0) =
    some (match findI badSize 0 m.sizes with | some i => (.ret, checkS h m (18, i) i) | none => (.exit 0, checkS h m (0, 0) m.sizes.length)) := by
  have hs := hm.sizes
  refine loop_search m.sizes badSize (checkS h m (0, 0)) (fun i => (.ret, checkS h m (18, i) i)) (.exit 0, checkS h m (0, 0) m.sizes.length) ?_ ?_ ?_
  · intro i x hx hi hp _
    simp [badSize] at hp
    simp (disch := omega) [round_eq, checkS, Try.f22, lv22, hx, hi, wrap_i64, show ¬ x < 0 by omega, show ¬ 4096 < x by omega, -getElem?_pos]
  · intro i x hx hi hp _
    simp [badSize] at hp
    by_cases c : x < 0
    · simp (disch := omega) [round_eq, checkS, Try.f22, lv22, hx, hi, wrap_i64, c, -getElem?_pos]
    · simp (disch := omega) [round_eq, checkS, Try.f22, lv22, hx, hi, wrap_i64, c, show 4096 < x by omega, -getElem?_pos]
  · intro _
    simp (disch := omega) [round_eq, checkS, Try.f22, lv22]

def checkE (h : Heap) (m : Mps) (r : Int × Int) (i : Nat) (last : Int) : St := ⟨[(1, .one (.ptr h.length 1 0 0)), (2, .one (.ptr (h.length + 1) 1 0 0)), (21, I (m.sizes.length : Nat)), (20, I (m.sizes.length : Nat)), (19, Sl (intsOf m.sizes)), (38, I (i : Nat)), (37, I (m.es.length : Nat)), (36, Sl (entsOf m.es)), (5, I last)],
  h ++ [some (.row 2 [encMps m]), some (.row 2 [[.int .i64 r.1, .int .i64 r.2]])], []⟩
def hitE (m : Mps) (i : Nat) : (Int × Int) × Int := match m.es[i]? with
  | some e => if e.n ≤ lastN m.es i ∨ e.n > 1048576 then ((19, (m.sizes.length : Int) + i), lastN m.es i) else ((entryF m.sizes e, (m.sizes.length : Int) + i), e.n)
  | none => ((0, 0), 0)
theorem check_ents (h : Heap) (m : Mps) (hm : m.Ok) : lpK 22 Try.f22 71 1 h (checkE h m (0, 0) 0 0) =
    some (match findI (badEnt m) 0 m.es with | some i => (.ret, checkE h m (hitE m i).1 i (hitE m i).2) | none => (.exit 2, checkE h m (0, 0) m.es.length (lastN m.es m.es.length))) := by
  have hs := hm.sizes
  have he := hm.es
  refine loop_search m.es (badEnt m) (fun i => checkE h m (0, 0) i (lastN m.es i)) (fun i => (.ret, checkE h m (hitE m i).1 i (hitE m i).2)) (.exit 2, checkE h m (0, 0) m.es.length (lastN m.es m.es.length)) ?_ ?_ ?_
  · intro i x hx hi hp _
    simp [badEnt] at hp
    have ok := hm.each x (List.mem_of_getElem? hx)
    have en := mentry [] m hm x ok
    simp [encMps, encEnt, hp.2] at en
    simp (disch := omega) [round_eq, checkE, Try.f22, lv22, hx, hi, wrap_i64, encMps, encEnt, show ¬ x.n ≤ lastN m.es i by omega, show ¬ 1048576 < x.n by omega, lastN_succ hx, en, -getElem?_pos]
  · intro i x hx hi hp _
    simp [badEnt] at hp
    have ok := hm.each x (List.mem_of_getElem? hx)
    have en := mentry [] m hm x ok
    simp [encMps, encEnt] at en
    by_cases c1 : x.n ≤ lastN m.es i
    · simp (disch := omega) [round_eq, checkE, hitE, Try.f22, lv22, hx, hi, wrap_i64, encMps, encEnt, c1, -getElem?_pos]
    by_cases c2 : 1048576 < x.n
    · simp (disch := omega) [round_eq, checkE, hitE, Try.f22, lv22, hx, hi, wrap_i64, encMps, encEnt, c1, c2, -getElem?_pos]
    have c3 : (entryF m.sizes x != 0) = true := by simp; omega
    simp (disch := omega) [round_eq, checkE, hitE, Try.f22, lv22, hx, hi, wrap_i64, encMps, encEnt, c1, c2, c3, en, -getElem?_pos]
  · intro _
    simp (disch := omega) [round_eq, checkE, Try.f22, lv22, encMps]

theorem check (h : Heap) (m : Mps) (hm : m.Ok) : CX 22 [.agg (encMps m)] h = some (.agg [.int .i64 (checkF m).1, .int .i64 (checkF m).2], h, []) := by
  refine CI_of Try.func22 rfl 0 ?_
  have hk : cfg.keep 22 = 0 := rfl
  have hs := hm.sizes
  by_cases c1 : 32 < m.sizes.length
  · have c1' : (32 : Int) < m.sizes.length := by omega
    simp (disch := omega) [Try.f22, lv22, hk, encMps, checkF, c1, c1']
  have c1' : ¬ (32 : Int) < m.sizes.length := by omega
  have g := check_sizes h m hm
  simp [checkS, encMps, lpK, lv22, Try.f22] at g
  cases h1 : findI badSize 0 m.sizes with
  | some i =>
    rw [h1] at g
    simp (disch := omega) [Try.f22, lv22, hk, encMps, checkF, c1, c1', h1, g]
  | none =>
    rw [h1] at g
    have g2 := check_ents h m hm
    simp [checkE, encMps, lpK, lv22, Try.f22] at g2
    cases h2 : findI (badEnt m) 0 m.es with
    | none =>
      rw [h2] at g2
      simp (disch := omega) [Try.f22, lv22, hk, encMps, checkF, c1, c1', h1, g, h2, g2]
    | some i =>
      rw [h2] at g2
      obtain ⟨_, x, hx, _⟩ := findI_some h2
      simp only [Nat.sub_zero] at hx
      by_cases c2 : x.n ≤ lastN m.es i ∨ x.n > 1048576 <;>
      simp (disch := omega) [Try.f22, lv22, hk, encMps, checkF, c1, c1', h1, g, h2, g2, hitE, hx, c2, -getElem?_pos]
end Go.Proofs.Ytdkknhpdjcdmfaa.Abs

/- Maps: whether they may be, as the document says; what is told of a safepoint. -/
set_option linter.unusedSimpArgs false
set_option linter.unusedVariables false
namespace Go.Proofs.Ytdkknhpdjcdmfaa.Abs
open Go Go.RowKit Go.Proofs

def chkS (h : Heap) (m : Mps) (r : Int × Int) (x y : V) : St := ⟨[(1, .one (.ptr h.length 1 0 0)), (2, .one (.ptr (h.length + 1) 1 0 0)), (3, x), (4, y)],
  h ++ [some (.row 2 [encMps m]), some (.row 2 [[.int .i64 r.1, .int .i64 r.2]])], []⟩
theorem chk_sizes (h : Heap) (m : Mps) (hm : m.Ok) : lpK 23 Try.f23 88 0 h (chkS h m (0, 0) (I (0 : Nat)) .junk) =
    some (match findI badSize 0 m.sizes with | some i => (.ret, chkS h m (18, i) (I i) .junk) | none => (.exit 0, chkS h m (0, 0) (I m.sizes.length) .junk)) := by
  have hs := hm.sizes
  refine loop_search m.sizes badSize (fun i => chkS h m (0, 0) (I (i : Nat)) .junk) (fun i => (.ret, chkS h m (18, i) (I i) .junk)) (.exit 0, chkS h m (0, 0) (I m.sizes.length) .junk) ?_ ?_ ?_
  · intro i x hx hi hp _
    simp [badSize] at hp
    simp (disch := omega) [round_eq, chkS, encMps, Try.f23, lv23, hx, hi, wrap_i64, show ¬ x < 0 by omega, show ¬ 4096 < x by omega, -getElem?_pos]
  · intro i x hx hi hp _
    simp [badSize] at hp
    by_cases c : x < 0
    · simp (disch := omega) [round_eq, chkS, encMps, Try.f23, lv23, hx, hi, wrap_i64, c, -getElem?_pos]
    · simp (disch := omega) [round_eq, chkS, encMps, Try.f23, lv23, hx, hi, wrap_i64, c, show 4096 < x by omega, -getElem?_pos]
  · intro _
    simp (disch := omega) [round_eq, chkS, encMps, Try.f23, lv23]

theorem chk_ents (h : Heap) (m : Mps) (hm : m.Ok) : lpK 23 Try.f23 88 1 h (chkS h m (0, 0) (I m.sizes.length) (I (0 : Nat))) =
    some (match findI (badEnt m) 0 m.es with | some i => (.ret, chkS h m (hitE m i).1 (I m.sizes.length) (I i)) | none => (.exit 2, chkS h m (0, 0) (I m.sizes.length) (I m.es.length))) := by
  have hs := hm.sizes
  have he := hm.es
  refine loop_search m.es (badEnt m) (fun i => chkS h m (0, 0) (I m.sizes.length) (I (i : Nat))) (fun i => (.ret, chkS h m (hitE m i).1 (I m.sizes.length) (I i))) (.exit 2, chkS h m (0, 0) (I m.sizes.length) (I m.es.length)) ?_ ?_ ?_
  · intro i x hx hi hp _
    simp [badEnt] at hp
    have ok := hm.each x (List.mem_of_getElem? hx)
    have en := entry' [] m hm x ok
    simp [encMps, encEnt, hp.2] at en
    rcases Nat.eq_zero_or_pos i with h0 | h0
    · have hl : lastN m.es i = 0 := by simp [lastN, h0]
      rw [hl] at hp
      simp (disch := omega) [round_eq, chkS, Try.f23, lv23, hx, hi, wrap_i64, encMps, encEnt, show ¬ x.n ≤ 0 by omega, show ¬ 1048576 < x.n by omega, show ¬ 0 < i by omega, en, -getElem?_pos]
    · obtain ⟨y, hy⟩ : ∃ y, m.es[i - 1]? = some y := ⟨m.es[i - 1]'(by omega), List.getElem?_eq_getElem (by omega)⟩
      have hl : lastN m.es i = y.n := by simp [lastN, show ¬ i = 0 by omega, hy]
      rw [hl] at hp
      have hc : ((i : Int) - 1) = ((i - 1 : Nat) : Int) := by omega
      simp (disch := omega) [round_eq, chkS, Try.f23, lv23, hx, hi, wrap_i64, encMps, encEnt, show ¬ x.n ≤ y.n by omega, show ¬ 1048576 < x.n by omega, h0, hc, hy, en, -getElem?_pos]
  · intro i x hx hi hp _
    simp [badEnt] at hp
    have ok := hm.each x (List.mem_of_getElem? hx)
    have en := entry' [] m hm x ok
    simp [encMps, encEnt] at en
    rcases Nat.eq_zero_or_pos i with h0 | h0
    · have hl : lastN m.es i = 0 := by simp [lastN, h0]
      rw [hl] at hp
      by_cases c1 : x.n ≤ 0
      · simp (disch := omega) [round_eq, chkS, hitE, hl, Try.f23, lv23, hx, hi, wrap_i64, encMps, encEnt, c1, show ¬ 0 < i by omega, -getElem?_pos]
      by_cases c2 : 1048576 < x.n
      · simp (disch := omega) [round_eq, chkS, hitE, hl, Try.f23, lv23, hx, hi, wrap_i64, encMps, encEnt, c1, c2, show ¬ 0 < i by omega, -getElem?_pos]
      have c3 : (entryF m.sizes x != 0) = true := by simp; omega
      simp (disch := omega) [round_eq, chkS, hitE, hl, Try.f23, lv23, hx, hi, wrap_i64, encMps, encEnt, c1, c2, c3, en, show ¬ 0 < i by omega, -getElem?_pos]
    · obtain ⟨y, hy⟩ : ∃ y, m.es[i - 1]? = some y := ⟨m.es[i - 1]'(by omega), List.getElem?_eq_getElem (by omega)⟩
      have hl : lastN m.es i = y.n := by simp [lastN, show ¬ i = 0 by omega, hy]
      rw [hl] at hp
      have hc : ((i : Int) - 1) = ((i - 1 : Nat) : Int) := by omega
      by_cases c1 : x.n ≤ y.n
      · simp (disch := omega) [round_eq, chkS, hitE, hl, Try.f23, lv23, hx, hi, wrap_i64, encMps, encEnt, c1, h0, hc, hy, -getElem?_pos]
      by_cases c2 : 1048576 < x.n
      · simp (disch := omega) [round_eq, chkS, hitE, hl, Try.f23, lv23, hx, hi, wrap_i64, encMps, encEnt, c1, c2, h0, hc, hy, -getElem?_pos]
      have c3 : (entryF m.sizes x != 0) = true := by simp; omega
      simp (disch := omega) [round_eq, chkS, hitE, hl, Try.f23, lv23, hx, hi, wrap_i64, encMps, encEnt, c1, c2, c3, en, h0, hc, hy, -getElem?_pos]
  · intro _
    simp (disch := omega) [round_eq, chkS, Try.f23, lv23, encMps]

theorem check' (h : Heap) (m : Mps) (hm : m.Ok) : CX 23 [.agg (encMps m)] h = some (.agg [.int .i64 (checkF m).1, .int .i64 (checkF m).2], h, []) := by
  refine CI_of Try.func23 rfl 0 ?_
  have hk : cfg.keep 23 = 0 := rfl
  have hs := hm.sizes
  by_cases c1 : 32 < m.sizes.length
  · have c1' : (32 : Int) < m.sizes.length := by omega
    simp (disch := omega) [Try.f23, lv23, hk, encMps, checkF, c1, c1']
  have c1' : ¬ (32 : Int) < m.sizes.length := by omega
  have g := chk_sizes h m hm
  simp [chkS, encMps, lpK, lv23, Try.f23] at g
  cases h1 : findI badSize 0 m.sizes with
  | some i =>
    rw [h1] at g
    simp (disch := omega) [Try.f23, lv23, hk, encMps, checkF, c1, c1', h1, g]
  | none =>
    rw [h1] at g
    have g2 := chk_ents h m hm
    simp [chkS, encMps, lpK, lv23, Try.f23] at g2
    cases h2 : findI (badEnt m) 0 m.es with
    | none =>
      rw [h2] at g2
      simp (disch := omega) [Try.f23, lv23, hk, encMps, checkF, c1, c1', h1, g, h2, g2]
    | some i =>
      rw [h2] at g2
      obtain ⟨_, x, hx, _⟩ := findI_some h2
      simp only [Nat.sub_zero] at hx
      by_cases c2 : x.n ≤ lastN m.es i ∨ x.n > 1048576 <;>
      simp (disch := omega) [Try.f23, lv23, hk, encMps, checkF, c1, c1', h1, g, h2, g2, hitE, hx, c2, -getElem?_pos]
end Go.Proofs.Ytdkknhpdjcdmfaa.Abs

/- Maps: what is told of a safepoint. -/
set_option linter.unusedSimpArgs false
set_option linter.unusedVariables false
namespace Go.Proofs.Ytdkknhpdjcdmfaa.Abs
open Go Go.RowKit Go.Proofs

def callK (P : Program) (cf : CF) (h : Heap) (vs : List V) : V → Res
  | .one (.fn g caps) => if callee P g then cf g (vs ++ caps.map V.one) h else none
  | _ => none
theorem op_callv {P : Program} {cf : CF} {slot : Option Nat} {T : Tmps} {h : Heap} {dst : Option Nat} {ty : TypeId} {pos : String} {after : Array Edge} {guard : Option (Nat × Bool)} (i : Nat) (args : Array Operand) (tys : Array TypeId) :
    absOp P cf slot T h ⟨dst, .call { callee := .value (.tmp i), args := args, argTypes := tys }, ty, pos, after, guard⟩ = callK P cf h (args.toList.map (ev T)) (tget T i) := by
  simp only [absOp, ev, callK]
  split <;> simp_all
theorem callK_fn (P : Program) (cf : CF) (h : Heap) (vs : List V) (g : FuncId) (caps : List Leaf) : callK P cf h vs (.one (.fn g caps)) = if callee P g then cf g (vs ++ caps.map V.one) h else none := rfl
theorem fzT_fn0 {h : Heap} {n0 : Nat} {L : List (Option Nat)} (f : FuncId) : fzT h n0 L (.fn f []) = some (.fn f []) := rfl
theorem ev_func {t : Tmps} (f : FuncId) : ev t (.func f) = .one (.fn f []) := rfl
attribute [simp] op_callv callK_fn fzT_fn0 ev_func

theorem wrap_u64 {n : Int} (h1 : 0 ≤ n) (h2 : n ≤ 9223372036854775807) : IntKind.u64.wrap n = n := by
  simp [IntKind.wrap, IntKind.min, IntKind.max, IntKind.signed, IntKind.bits]
  omega
theorem conv_int {P : Program} {h : Heap} (s d : TypeId) (k : IntKind) (n : Int) : convertV P h s d (.one (.int k n)) = match P.underlying s, P.underlying d with
    | some _, some (.int k') => some (.one (.int k' (k'.wrap n)))
    | _, _ => none := by
  unfold convertV
  cases P.underlying s with
  | none => rfl
  | some a =>
    cases P.underlying d with
    | none => cases a <;> rfl
    | some b =>
      cases b <;> cases a <;> try rfl
      rename_i e
      simp only [view, Option.bind_none]
      split <;> first | rfl | (split <;> rfl)
attribute [simp] conv_int

theorem find_cmp (h : Heap) (e : Ent) (n : Int) : CX 61 [.agg (encEnt e), I n] h = some (I (cmpI e.n n), h, []) := by
  refine CI_of Try.func61 rfl 0 ?_
  have hk : cfg.keep 61 = 0 := rfl
  simp [Try.f61, hk, encEnt, compare]

/-- Numbers that rise. -/
def Sorted (es : List Ent) : Prop := ∀ (i j : Nat) (x y : Ent), i < j → es[i]? = some x → es[j]? = some y → x.n < y.n
/-- A place up to which numbers are below one, and from which on they are not. -/
structure Cut (es : List Ent) (n : Int) (i : Nat) : Prop where
  le : i ≤ es.length
  below : ∀ j x, j < i → es[j]? = some x → x.n < n
  above : ∀ j x, i ≤ j → es[j]? = some x → n ≤ x.n

def bsS (h : Heap) (es : List Ent) (n : Int) (s : Nat × Nat) : St := ⟨[(0, Sl (entsOf es)), (8, I (es.length : Nat)), (9, I (s.1 : Nat)), (10, I (s.2 : Nat)), (2, .one (.fn 61 [])), (1, I n)], h, []⟩
theorem bs_loop (h : Heap) (es : List Ent) (hf : Fit es) (hs : Sorted es) (n : Int) : ∃ i, Cut es n i ∧ lpK 60 Try.f60 49 0 h (bsS h es n (0, es.length)) = some (.exit 0, bsS h es n (i, i)) := by
  have := loop_rel (P := Try.prog) (C := cfg) (sc := runScope Try.prog cfg 49 h.length (cfg.live 60) 0) (N := 49) (n0 := h.length) (K := cfg.live 60) (c := loopAt Try.f60 0) (bsS h es n)
    (fun s => s.1 ≤ s.2 ∧ s.2 ≤ es.length ∧ (∀ j x, j < s.1 → es[j]? = some x → x.n < n) ∧ (∀ j x, s.2 ≤ j → es[j]? = some x → n ≤ x.n)) (fun s => s.2 - s.1) (fun s r => ∃ i, Cut es n i ∧ r = (.exit 0, bsS h es n (i, i))) ?_ (0, es.length) ⟨Nat.zero_le _, Nat.le_refl _, fun j x h => by omega, fun j x h1 h2 => by have := (List.getElem?_eq_some_iff.1 h2).1; omega⟩
  · obtain ⟨r, h1, i, h2, rfl⟩ := this
    exact ⟨i, h2, h1⟩
  rintro ⟨i, j⟩ ⟨j1, j2, j3, j4⟩
  simp only at j1 j2 j3 j4 ⊢
  by_cases hij : i < j
  · obtain ⟨k, hk1, hk2⟩ : ∃ k : Nat, k = (i + j) / 2 ∧ ((i : Int) + j).fdiv 2 = (k : Int) := ⟨(i + j) / 2, rfl, by rw [Int.fdiv_eq_ediv_of_nonneg _ (by omega)]; omega⟩
    obtain ⟨x, hx⟩ : ∃ x, es[k]? = some x := ⟨es[k]'(by omega), List.getElem?_eq_getElem (by omega)⟩
    have en := find_cmp [] x n
    simp [encEnt] at en
    by_cases c : x.n < n
    · have hc : cmpI x.n n = -1 := by simp [cmpI, c]
      rw [hc] at en
      refine .inl ⟨(k + 1, j), ?_, ⟨by simp only; omega, j2, fun l y hl hy => ?_, j4⟩, by simp only; omega, fun r hr => hr⟩
      · simp (disch := omega) [round_eq, bsS, Try.f60, lv60, hij, wrap_i64, wrap_u64, IntKind.bits, hk2, hx, encEnt, en, -getElem?_pos]
      · simp only at hl
        rcases Nat.lt_or_ge l k with h1 | h1
        · have := hs l _ y x h1 hy hx; omega
        · have : l = k := by omega
          subst this; rw [hx] at hy; cases hy; exact c
    · have hc : ¬ cmpI x.n n < 0 := by unfold cmpI; split; omega; split <;> omega
      refine .inl ⟨(i, k), ?_, ⟨by simp only; omega, by simp only; omega, j3, fun l y hl hy => ?_⟩, by simp only; omega, fun r hr => hr⟩
      · simp (disch := omega) [round_eq, bsS, Try.f60, lv60, hij, wrap_i64, wrap_u64, IntKind.bits, hk2, hx, encEnt, en, hc, -getElem?_pos]
      · simp only at hl
        rcases Nat.lt_or_ge k l with h1 | h1
        · have := hs _ l x y h1 hx hy; omega
        · have : l = k := by omega
          subst this; rw [hx] at hy; cases hy; omega
  · have : i = j := by omega
    subst this
    refine .inr ⟨(.exit 0, bsS h es n (i, i)), ?_, by simp, i, ⟨j2, j3, j4⟩, rfl⟩
    simp (disch := omega) [round_eq, bsS, Try.f60, lv60, -getElem?_pos]
end Go.Proofs.Ytdkknhpdjcdmfaa.Abs
