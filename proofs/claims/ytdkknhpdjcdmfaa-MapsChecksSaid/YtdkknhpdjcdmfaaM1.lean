/- Small functions over lists of numbers: what each answers. -/
import Derived.Test.YtdkknhpdjcdmfaaB0
set_option linter.unusedSimpArgs false
set_option linter.unusedVariables false
namespace Go.Proofs.Ytdkknhpdjcdmfaa.Abs
open Go Go.RowKit Go.Proofs

def hasS (h : Heap) (xs : List Int) (n : Int) (r : Bool) (i : Nat) : St := ⟨[(5, I (i : Nat)), (0, Sl (intsOf xs)), (1, I n), (4, Bo r)], h, []⟩
theorem has_loop (h : Heap) (xs : List Int) (hf : Fit xs) (n : Int) : lpK 46 Try.f46 18 0 h (hasS h xs n false 0) =
    some (match findI (fun _ x => x == n) 0 xs with | some i => (.ret, hasS h xs n true i) | none => (.exit 0, hasS h xs n false xs.length)) := by
  refine loop_search xs (fun _ x => x == n) (hasS h xs n false) (fun i => (.ret, hasS h xs n true i)) (.exit 0, hasS h xs n false xs.length) ?_ ?_ ?_
  · intro i x hx hi hp _
    simp (disch := omega) [round_eq, hasS, Try.f46, lv46, hx, hi, wrap_i64, hp, -getElem?_pos]
  · intro i x hx hi hp _
    simp (disch := omega) [round_eq, hasS, Try.f46, lv46, hx, hi, wrap_i64, hp, -getElem?_pos]
  · intro _
    simp (disch := omega) [round_eq, hasS, Try.f46, lv46]

theorem any_contains (xs : List Int) (n : Int) : (xs.any fun x => x == n) = xs.contains n := by
  induction xs with
  | nil => rfl
  | cons x xs ih => rw [List.any_cons, List.contains_cons, ih, Bool.beq_comm]

theorem has (h : Heap) (xs : List Int) (hf : Fit xs) (n : Int) : CX 46 [Sl (intsOf xs), I n] h = some (Bo (xs.contains n), h, []) := by
  refine CI_of Try.func46 rfl 0 ?_
  have hk : cfg.keep 46 = 0 := rfl
  have e := has_loop h xs hf n
  have hc : (findI (fun _ x => x == n) 0 xs).isSome = xs.contains n := by rw [findI_any, any_contains]
  rw [← hc]
  simp [hasS, lpK, lv46, Try.f46] at e
  cases hh : findI (fun _ x => x == n) 0 xs <;> rw [hh] at e <;> simp (disch := omega) [Try.f46, lv46, e, hk]

def differs {α : Type} [DecidableEq α] (ys : List α) (i : Nat) (x : α) : Bool := decide (ys[i]? ≠ some x)
def intsS (h : Heap) (xs ys : List Int) (r : Bool) (i : Nat) : St := ⟨[(0, Sl (intsOf xs)), (1, Sl (intsOf ys)), (5, I (i : Nat)), (4, Bo r)], h, []⟩
theorem ints_loop (h : Heap) (xs ys : List Int) (hf : Fit xs) (hl : xs.length = ys.length) : lpK 40 Try.f40 26 0 h (intsS h xs ys false 0) =
    some (match findI (differs ys) 0 xs with | some i => (.ret, intsS h xs ys false i) | none => (.exit 0, intsS h xs ys false xs.length)) := by
  have q := qt40
  simp [Try.f40, quietFn, quietRegs] at q
  refine loop_search xs (differs ys) (intsS h xs ys false) (fun i => (.ret, intsS h xs ys false i)) (.exit 0, intsS h xs ys false xs.length) ?_ ?_ ?_
  · intro i x hx hi hp _
    have hy : ys[i]? = some x := by simpa [differs] using hp
    simp (disch := omega) [round_eq, intsS, Try.f40, lv40, hx, hy, hi, wrap_i64, q, -getElem?_pos]
  · intro i x hx hi hp _
    obtain ⟨y, hy⟩ : ∃ y, ys[i]? = some y := ⟨ys[i]'(by omega), by simp [show i < ys.length by omega]⟩
    have hne : (x != y) = true := by simp [differs, hy] at hp ⊢; exact fun e => hp e.symm
    simp (disch := omega) [round_eq, intsS, Try.f40, lv40, hx, hy, hi, wrap_i64, hne, q, -getElem?_pos]
  · intro _
    simp (disch := omega) [round_eq, intsS, Try.f40, lv40]

theorem findI_eq {α : Type} [DecidableEq α] (xs ys : List α) (hl : xs.length = ys.length) : (findI (differs ys) 0 xs).isNone = decide (xs = ys) := by
  cases h : findI (differs ys) 0 xs with
  | none =>
    rw [findI_none] at h
    have : xs = ys := by
      apply List.ext_getElem? ; intro i
      cases hx : xs[i]? with
      | some x => have := h i x hx; simp [differs] at this; exact this.symm
      | none => rw [List.getElem?_eq_none_iff] at hx; symm; rw [List.getElem?_eq_none_iff]; omega
    simp [this]
  | some k =>
    obtain ⟨_, x, h1, h2, _⟩ := findI_some h
    have : xs ≠ ys := by rintro rfl; simp [differs] at h1 h2; exact h2 h1
    simp [this]

theorem ints (h : Heap) (xs ys : List Int) (hf : Fit xs) : CX 40 [Sl (intsOf xs), Sl (intsOf ys)] h = some (Bo (decide (xs = ys)), h, []) := by
  refine CI_of Try.func40 rfl 0 ?_
  have hk : cfg.keep 40 = 0 := rfl
  by_cases hl : xs.length = ys.length
  · have e := ints_loop h xs ys hf hl
    rw [← findI_eq xs ys hl]
    simp [intsS, lpK, lv40, Try.f40] at e
    cases hh : findI (differs ys) 0 xs <;> rw [hh] at e <;> simp (disch := omega) [Try.f40, lv40, e, hk, hl]
  · have hl' : ((xs.length : Int) != (ys.length : Int)) = true := by simp; omega
    have hne : xs ≠ ys := by rintro rfl; exact hl rfl
    simp (disch := omega) [Try.f40, lv40, hk, hl', hne]
end Go.Proofs.Ytdkknhpdjcdmfaa.Abs
