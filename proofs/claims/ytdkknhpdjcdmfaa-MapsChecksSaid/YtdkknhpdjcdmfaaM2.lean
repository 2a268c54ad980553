/- Functions over lists of numbers and pairs: what each answers. -/
import Derived.Test.YtdkknhpdjcdmfaaM1
set_option linter.unusedSimpArgs false
set_option linter.unusedVariables false
namespace Go.Proofs.Ytdkknhpdjcdmfaa.Abs
open Go Go.RowKit Go.Proofs

def indexS (h : Heap) (xs : List Int) (n r : Int) (i : Nat) : St := ⟨[(0, Sl (intsOf xs)), (8, I (i : Nat)), (7, I (xs.length : Nat)), (1, I n), (4, I r)], h, []⟩
theorem index_loop (h : Heap) (xs : List Int) (hf : Fit xs) (n : Int) : lpK 70 Try.f70 19 0 h (indexS h xs n 0 0) =
    some (match findI (fun _ x => n == x) 0 xs with | some i => (.ret, indexS h xs n i i) | none => (.exit 0, indexS h xs n 0 xs.length)) := by
  refine loop_search xs (fun _ x => n == x) (indexS h xs n 0) (fun i => (.ret, indexS h xs n i i)) (.exit 0, indexS h xs n 0 xs.length) ?_ ?_ ?_
  · intro i x hx hi hp _
    simp (disch := omega) [round_eq, indexS, Try.f70, lv70, hx, hi, wrap_i64, hp, -getElem?_pos]
  · intro i x hx hi hp _
    simp (disch := omega) [round_eq, indexS, Try.f70, lv70, hx, hi, wrap_i64, hp, -getElem?_pos]
  · intro _
    simp (disch := omega) [round_eq, indexS, Try.f70, lv70]

/-- At which place a number stands first; -1: at none. -/
def idxI (xs : List Int) (n : Int) : Int := match findI (fun _ x => n == x) 0 xs with | some i => (i : Int) | none => -1
theorem index (h : Heap) (xs : List Int) (hf : Fit xs) (n : Int) : CX 70 [Sl (intsOf xs), I n] h = some (I (idxI xs n), h, []) := by
  refine CI_of Try.func70 rfl 0 ?_
  have hk : cfg.keep 70 = 0 := rfl
  have e := index_loop h xs hf n
  simp [indexS, lpK, lv70, Try.f70] at e
  unfold idxI
  cases hh : findI (fun _ x => n == x) 0 xs <;> rw [hh] at e <;> simp (disch := omega) [Try.f70, lv70, e, hk]

theorem idxI_ge (xs : List Int) (n : Int) : decide (idxI xs n ≥ 0) = xs.contains n := by
  have h := findI_any (fun x => n == x) xs
  have : (xs.any fun x => n == x) = xs.contains n := by rw [← any_contains]; congr 1; funext x; exact Bool.beq_comm
  rw [this] at h
  unfold idxI
  cases hh : findI (fun _ x => n == x) 0 xs with
  | none => rw [hh] at h; rw [← h]; rfl
  | some i => rw [hh] at h; rw [← h]; simp

theorem contains (h : Heap) (xs : List Int) (hf : Fit xs) (n : Int) : CX 67 [Sl (intsOf xs), I n] h = some (Bo (xs.contains n), h, []) := by
  refine CI_of Try.func67 rfl 0 ?_
  have hk : cfg.keep 67 = 0 := rfl
  rw [← idxI_ge]
  simp (disch := omega) [Try.f67, hk, index _ xs hf n]

/-- The number ahead of a place; -1 ahead of the first. -/
def aheadI (xs : List Int) (i : Nat) : Int := if i = 0 then -1 else xs.getD (i - 1) 0
theorem aheadI_succ {xs : List Int} {i : Nat} {x : Int} (hx : xs[i]? = some x) : aheadI xs (i + 1) = x := by simp [aheadI, List.getD, hx]
def fallsI (size : Int) (xs : List Int) (i : Nat) (x : Int) : Bool := decide (x ≤ aheadI xs i) || decide (x ≥ size)
/-- Do numbers rise, from 0 on, up to below a size? -/
def rises (size : Int) (xs : List Int) : Bool := (findI (fallsI size xs) 0 xs).isNone

def risingS (h : Heap) (xs : List Int) (size : Int) (i : Nat) : St := ⟨[(10, I (i : Nat)), (9, I (xs.length : Nat)), (8, Sl (intsOf xs)), (5, I (aheadI xs i)), (1, I size), (4, Bo false)], h, []⟩
theorem rising_loop (h : Heap) (xs : List Int) (hf : Fit xs) (size : Int) : lpK 94 Try.f94 24 0 h (risingS h xs size 0) =
    some (match findI (fallsI size xs) 0 xs with | some i => (.ret, risingS h xs size i) | none => (.exit 0, risingS h xs size xs.length)) := by
  refine loop_search xs (fallsI size xs) (risingS h xs size) (fun i => (.ret, risingS h xs size i)) (.exit 0, risingS h xs size xs.length) ?_ ?_ ?_
  · intro i x hx hi hp _
    simp [fallsI] at hp
    simp (disch := omega) [round_eq, risingS, Try.f94, lv94, hx, hi, wrap_i64, show ¬ x ≤ aheadI xs i by omega, show ¬ size ≤ x by omega, aheadI_succ hx, -getElem?_pos]
  · intro i x hx hi hp _
    simp [fallsI] at hp
    by_cases h1 : x ≤ aheadI xs i
    · simp (disch := omega) [round_eq, risingS, Try.f94, lv94, hx, hi, wrap_i64, h1, -getElem?_pos]
    · simp (disch := omega) [round_eq, risingS, Try.f94, lv94, hx, hi, wrap_i64, h1, show size ≤ x by omega, -getElem?_pos]
  · intro _
    simp (disch := omega) [round_eq, risingS, Try.f94, lv94]

theorem rising (h : Heap) (xs : List Int) (hf : Fit xs) (size : Int) : CX 94 [Sl (intsOf xs), I size] h = some (Bo (rises size xs), h, []) := by
  refine CI_of Try.func94 rfl 0 ?_
  have hk : cfg.keep 94 = 0 := rfl
  have e := rising_loop h xs hf size
  have ha : aheadI xs 0 = -1 := rfl
  simp [risingS, lpK, lv94, Try.f94, ha] at e
  unfold rises
  cases hh : findI (fallsI size xs) 0 xs <;> rw [hh] at e <;> simp (disch := omega) [Try.f94, lv94, e, hk]

def fallsI' (size : Int) (xs : List Int) (i : Nat) (x : Int) : Bool := decide (x < 0) || decide (x ≥ size) || (decide (i > 0) && decide (x ≤ xs.getD (i - 1) 0))
def risingS' (h : Heap) (xs : List Int) (size : Int) (i : Nat) : St := ⟨[(5, I (i : Nat)), (0, Sl (intsOf xs)), (1, I size), (4, Bo false)], h, []⟩
theorem rising_loop' (h : Heap) (xs : List Int) (hf : Fit xs) (size : Int) : lpK 95 Try.f95 41 0 h (risingS' h xs size 0) =
    some (match findI (fallsI' size xs) 0 xs with | some i => (.ret, risingS' h xs size i) | none => (.exit 0, risingS' h xs size xs.length)) := by
  have q := qt95
  simp [Try.f95, quietFn, quietRegs] at q
  refine loop_search xs (fallsI' size xs) (risingS' h xs size) (fun i => (.ret, risingS' h xs size i)) (.exit 0, risingS' h xs size xs.length) ?_ ?_ ?_
  · intro i x hx hi hp _
    simp [fallsI'] at hp
    rcases Nat.eq_zero_or_pos i with h0 | h0
    · simp (disch := omega) [round_eq, risingS', Try.f95, lv95, hx, hi, wrap_i64, q, show ¬ x < 0 by omega, show ¬ size ≤ x by omega, show ¬ 0 < i by omega, -getElem?_pos]
    · obtain ⟨y, hy⟩ : ∃ y, xs[i - 1]? = some y := ⟨xs[i - 1]'(by omega), List.getElem?_eq_getElem (by omega)⟩
      have hc : ((i : Int) - 1) = ((i - 1 : Nat) : Int) := by omega
      have hyx : ¬ x ≤ y := by have := hp.2 h0; simp [List.getD, hy] at this; omega
      simp (disch := omega) [round_eq, risingS', Try.f95, lv95, hx, hi, wrap_i64, q, show ¬ x < 0 by omega, show ¬ size ≤ x by omega, h0, hc, hy, hyx, -getElem?_pos]
  · intro i x hx hi hp _
    simp [fallsI'] at hp
    by_cases h1 : x < 0
    · simp (disch := omega) [round_eq, risingS', Try.f95, lv95, hx, hi, wrap_i64, q, h1, -getElem?_pos]
    by_cases h2 : size ≤ x
    · simp (disch := omega) [round_eq, risingS', Try.f95, lv95, hx, hi, wrap_i64, q, h1, h2, -getElem?_pos]
    have h0 : 0 < i := by omega
    obtain ⟨y, hy⟩ : ∃ y, xs[i - 1]? = some y := ⟨xs[i - 1]'(by omega), List.getElem?_eq_getElem (by omega)⟩
    have hc : ((i : Int) - 1) = ((i - 1 : Nat) : Int) := by omega
    have hyx : x ≤ y := by rcases hp with h | h; omega; have := h.2; simp [List.getD, hy] at this; exact this
    simp (disch := omega) [round_eq, risingS', Try.f95, lv95, hx, hi, wrap_i64, q, h1, h2, h0, hc, hy, hyx, -getElem?_pos]
  · intro _
    simp (disch := omega) [round_eq, risingS', Try.f95, lv95]

theorem falls_same {size : Int} {xs : List Int} {i : Nat} (hb : ∀ j y, j < i → xs[j]? = some y → fallsI size xs j y = false) {x : Int} (hx : xs[i]? = some x) : fallsI' size xs i x = fallsI size xs i x := by
  unfold fallsI fallsI'
  rcases Nat.eq_zero_or_pos i with h0 | h0
  · subst h0
    simp only [aheadI]
    by_cases h : x < 0 <;> simp [h] <;> omega
  · obtain ⟨y, hy⟩ : ∃ y, xs[i - 1]? = some y := by
      have := (List.getElem?_eq_some_iff.1 hx).1
      exact ⟨xs[i - 1]'(by omega), List.getElem?_eq_getElem (by omega)⟩
    have h1 := hb (i - 1) y (by omega) hy
    have hpos : ∀ j y, j < i → xs[j]? = some y → 0 ≤ y := by
      intro j
      induction j with
      | zero => intro y hj hy; have := hb 0 y hj hy; simp [fallsI, aheadI] at this; omega
      | succ j ih =>
        intro y hj hy
        obtain ⟨z, hz⟩ : ∃ z, xs[j]? = some z := by
          have := (List.getElem?_eq_some_iff.1 hy).1
          exact ⟨xs[j]'(by omega), List.getElem?_eq_getElem (by omega)⟩
        have h2 := ih z (by omega) hz
        have h3 := hb (j + 1) y hj hy
        rw [fallsI, aheadI_succ hz] at h3
        simp at h3; omega
    have h2 := hpos (i - 1) y (by omega) hy
    simp only [aheadI, show ¬ i = 0 by omega, if_false, List.getD, hy, Option.getD_some]
    by_cases h3 : x ≤ y
    · simp [h3, h0]
    · simp [h3, h0, show ¬ x < 0 by omega]

theorem findI_same {α : Type} {p q : Nat → α → Bool} {xs : List α} (h : ∀ i x, xs[i]? = some x → (∀ j y, j < i → xs[j]? = some y → p j y = false) → q i x = p i x) : findI q 0 xs = findI p 0 xs := by
  cases hp : findI p 0 xs with
  | none =>
    rw [findI_none] at hp ⊢
    intro i x hx
    rw [Nat.zero_add] at *
    have := hp i x hx
    rw [Nat.zero_add] at this
    rw [h i x hx fun j y hj hy => by have := hp j y hy; rwa [Nat.zero_add] at this]; exact this
  | some k =>
    obtain ⟨_, x, h1, h2, h3⟩ := findI_some hp
    simp only [Nat.sub_zero, Nat.zero_add] at h1 h2 h3
    have hq : ∀ j y, j < k → xs[j]? = some y → q j y = false := fun j y hj hy => by
      rw [h j y hy fun j' y' hj' hy' => h3 j' y' (by omega) hy']; exact h3 j y hj hy
    have hk : q k x = true := by rw [h k x h1 fun j y hj hy => h3 j y hj hy]; exact h2
    cases hq' : findI q 0 xs with
    | none =>
      have := findI_none.1 hq' k x h1
      rw [Nat.zero_add, hk] at this; cases this
    | some m =>
      obtain ⟨_, y, g1, g2, g3⟩ := findI_some hq'
      simp only [Nat.sub_zero, Nat.zero_add] at g1 g2 g3
      rcases Nat.lt_trichotomy m k with hm | hm | hm
      · rw [hq m y hm g1] at g2; cases g2
      · rw [hm]
      · have := g3 k x hm h1
        rw [hk] at this; cases this

theorem rising' (h : Heap) (xs : List Int) (hf : Fit xs) (size : Int) : CX 95 [Sl (intsOf xs), I size] h = some (Bo (rises size xs), h, []) := by
  refine CI_of Try.func95 rfl 0 ?_
  have hk : cfg.keep 95 = 0 := rfl
  have e := rising_loop' h xs hf size
  rw [findI_same fun i x hx hb => falls_same hb hx] at e
  simp [risingS', lpK, lv95, Try.f95] at e
  unfold rises
  cases hh : findI (fallsI size xs) 0 xs <;> rw [hh] at e <;> simp (disch := omega) [Try.f95, lv95, e, hk]

def dersS (h : Heap) (xs : List (Int × Int)) (i : Nat) (acc : List Int) : St := ⟨[(4, I (i : Nat)), (0, Sl (pairsOf xs)), (3, .one (.sl h.length 1 acc.length 0 acc.length))], h ++ [some (.row 1 (intsOf acc))], []⟩
theorem ders_loop (h : Heap) (xs : List (Int × Int)) (hf : Fit xs) : lpK 96 Try.f96 20 0 h (dersS h xs 0 []) = some (.exit 0, dersS h xs xs.length (xs.map (·.1))) := by
  have := foldl_push (·.1) xs []
  rw [List.nil_append] at this
  rw [← this]
  refine loop_list xs (fun acc x => acc ++ [x.1]) (dersS h xs) (fun acc => (.exit 0, dersS h xs xs.length acc)) (fun i acc => acc.length = i) ?_ ?_ [] rfl
  · intro i acc x hi hj
    subst hj
    have hl : acc.length < xs.length := (List.getElem?_eq_some_iff.1 hi).1
    simp (disch := omega) [round_eq, dersS, Try.f96, lv96, hi, hl, wrap_i64, room_of, intsOf_snoc, -getElem?_pos]
  · intro acc hj
    simp (disch := omega) [round_eq, dersS, Try.f96, lv96]

theorem ders (h : Heap) (xs : List (Int × Int)) (hf : Fit xs) : CX 96 [Sl (pairsOf xs)] h = some (Sl (intsOf (xs.map (·.1))), h, []) := by
  refine CI_of Try.func96 rfl 0 ?_
  have hk : cfg.keep 96 = 0 := rfl
  have e := ders_loop h xs hf
  simp [dersS, lpK, lv96, Try.f96] at e
  simp (disch := omega) [Try.f96, lv96, e, hk]

def pairsS (h : Heap) (xs ys : List (Int × Int)) (r : Bool) (i : Nat) : St := ⟨[(0, Sl (pairsOf xs)), (1, Sl (pairsOf ys)), (5, I (i : Nat)), (4, Bo r)], h, []⟩
theorem pairs_loop (h : Heap) (xs ys : List (Int × Int)) (hf : Fit xs) (hl : xs.length = ys.length) : lpK 63 Try.f63 26 0 h (pairsS h xs ys false 0) =
    some (match findI (differs ys) 0 xs with | some i => (.ret, pairsS h xs ys false i) | none => (.exit 0, pairsS h xs ys false xs.length)) := by
  have q := qt63
  simp [Try.f63, quietFn, quietRegs] at q
  refine loop_search xs (differs ys) (pairsS h xs ys false) (fun i => (.ret, pairsS h xs ys false i)) (.exit 0, pairsS h xs ys false xs.length) ?_ ?_ ?_
  · intro i x hx hi hp _
    have hy : ys[i]? = some x := by simpa [differs] using hp
    simp (disch := omega) [round_eq, pairsS, Try.f63, lv63, hx, hy, hi, wrap_i64, q, -getElem?_pos]
  · intro i x hx hi hp _
    obtain ⟨y, hy⟩ : ∃ y, ys[i]? = some y := ⟨ys[i]'(by omega), by simp [show i < ys.length by omega]⟩
    have hne : x ≠ y := by rintro rfl; simp [differs, hy] at hp
    obtain ⟨x1, x2⟩ := x
    obtain ⟨y1, y2⟩ := y
    by_cases h1 : x1 = y1
    · have h2 : (x2 == y2) = false := by simp; intro h2; exact hne (by rw [h1, h2])
      simp (disch := omega) [round_eq, pairsS, Try.f63, lv63, hx, hy, hi, wrap_i64, h1, h2, q, -getElem?_pos]
    · have h1' : (x1 == y1) = false := by simp [h1]
      simp (disch := omega) [round_eq, pairsS, Try.f63, lv63, hx, hy, hi, wrap_i64, h1', q, -getElem?_pos]
  · intro _
    simp (disch := omega) [round_eq, pairsS, Try.f63, lv63]

theorem pairs (h : Heap) (xs ys : List (Int × Int)) (hf : Fit xs) : CX 63 [Sl (pairsOf xs), Sl (pairsOf ys)] h = some (Bo (decide (xs = ys)), h, []) := by
  refine CI_of Try.func63 rfl 0 ?_
  have hk : cfg.keep 63 = 0 := rfl
  by_cases hl : xs.length = ys.length
  · have e := pairs_loop h xs ys hf hl
    rw [← findI_eq xs ys hl]
    simp [pairsS, lpK, lv63, Try.f63] at e
    cases hh : findI (differs ys) 0 xs <;> rw [hh] at e <;> simp (disch := omega) [Try.f63, lv63, e, hk, hl]
  · have hl' : ((xs.length : Int) != (ys.length : Int)) = true := by simp; omega
    have hne : xs ≠ ys := by rintro rfl; exact hl rfl
    simp (disch := omega) [Try.f63, lv63, hk, hl', hne]

theorem isNaN (h : Heap) (a : Int) : CX 97 [I a] h = some (Bo false, h, []) := by
  refine CI_of Try.func97 rfl 0 ?_
  have hk : cfg.keep 97 = 0 := rfl
  simp [Try.f97, hk]

def cmpI (a b : Int) : Int := if a < b then -1 else if b < a then 1 else 0
theorem compare (h : Heap) (a b : Int) : CX 62 [I a, I b] h = some (I (cmpI a b), h, []) := by
  refine CI_of Try.func62 rfl 0 ?_
  have hk : cfg.keep 62 = 0 := rfl
  by_cases h1 : a < b
  · simp [Try.f62, hk, isNaN, cmpI, h1]
  · by_cases h2 : b < a <;> simp [Try.f62, hk, isNaN, cmpI, h1, h2]
end Go.Proofs.Ytdkknhpdjcdmfaa.Abs
