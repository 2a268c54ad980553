/- Maps: what is told of a safepoint, as both say; the law. -/
import Derived.Test.YtdkknhpdjcdmfaaM7
set_option linter.unusedSimpArgs false
set_option linter.unusedVariables false
namespace Go.Proofs.Ytdkknhpdjcdmfaa.Abs
open Go Go.RowKit Go.Proofs

def hitB (es : List Ent) (n : Int) (i : Nat) : Bool := match es[i]? with | some e => decide (e.n = n) | none => false

theorem bsearch (h : Heap) (es : List Ent) (hf : Fit es) (hs : Sorted es) (n : Int) : ∃ i, Cut es n i ∧ CX 60 [Sl (entsOf es), I n, .one (.fn 61 [])] h = some (.tup [I i, Bo (hitB es n i)], h, []) := by
  obtain ⟨i, hc, g⟩ := bs_loop h es hf hs n
  refine ⟨i, hc, ?_⟩
  refine CI_of Try.func60 rfl 0 ?_
  have hk : cfg.keep 60 = 0 := rfl
  simp [bsS, lpK, lv60, Try.f60] at g
  unfold hitB
  by_cases hi : i < es.length
  · obtain ⟨x, hx⟩ : ∃ x, es[i]? = some x := ⟨es[i], List.getElem?_eq_getElem hi⟩
    have en := find_cmp [] x n
    have hb : (cmpI x.n n == 0) = decide (x.n = n) := by
      unfold cmpI
      by_cases c1 : x.n < n
      · simp [c1]; omega
      · by_cases c2 : n < x.n
        · simp [c1, c2]; omega
        · simp [c1, c2]; omega
    simp [encEnt] at en
    simp (disch := omega) [Try.f60, lv60, hk, g, hi, hx, encEnt, en, hb, -getElem?_pos]
  · have hn : es[i]? = none := List.getElem?_eq_none (by omega)
    simp (disch := omega) [Try.f60, lv60, hk, g, hi, hn, -getElem?_pos]

def findE (es : List Ent) (n : Int) : Option Ent := match findI (fun _ e => e.n == n) 0 es with
  | some i => es[i]?
  | none => none
def noEnt : Ent := ⟨0, 0, [], []⟩

theorem findE_cut {es : List Ent} {n : Int} (hs : Sorted es) {i : Nat} (hc : Cut es n i) : findE es n = if hitB es n i then es[i]? else none := by
  unfold findE hitB
  cases hx : es[i]? with
  | none =>
    have hall : findI (fun _ e => e.n == n) 0 es = none := findI_none.2 fun j y hy => by
      have hj : j < i := by
        have := (List.getElem?_eq_some_iff.1 hy).1
        rw [List.getElem?_eq_none_iff] at hx; omega
      have := hc.below j y hj hy
      simp; omega
    rw [hall]; rfl
  | some x =>
    by_cases he : x.n = n
    · have hf : findI (fun _ e => e.n == n) 0 es = some i := by
        cases hq : findI (fun _ e => e.n == n) 0 es with
        | none => have := findI_none.1 hq i x hx; simp [he] at this
        | some k =>
          obtain ⟨_, y, k1, k2, k3⟩ := findI_some hq
          simp only [Nat.sub_zero] at k1
          simp at k2
          rcases Nat.lt_trichotomy k i with h | h | h
          · have := hc.below k y h k1; omega
          · rw [h]
          · have := hs i k x y h hx k1; omega
      rw [hf]; simp [he, hx]
    · have hall : findI (fun _ e => e.n == n) 0 es = none := findI_none.2 fun j y hy => by
        rcases Nat.lt_trichotomy j i with h | h | h
        · have := hc.below j y h hy; simp; omega
        · subst h; rw [hx] at hy; cases hy; simp [he]
        · have h1 := hs i j x y h hx hy
          have h2 := hc.above i x (Nat.le_refl _) hx
          simp; omega
      rw [hall]; simp [he]

theorem mfind (h : Heap) (m : Mps) (hm : m.Ok) (hs : Sorted m.es) (n : Int) : CX 24 [.agg (encMps m), I n] h = some (.tup [.agg (encEnt ((findE m.es n).getD noEnt)), Bo (findE m.es n).isSome], h, []) := by
  refine CI_of Try.func24 rfl 0 ?_
  have hk : cfg.keep 24 = 0 := rfl
  obtain ⟨i, hc, e⟩ := bsearch (h ++ [some (.row 2 [[.isl (intsOf m.sizes), .isl (entsOf m.es)]]), some (.row 4 [[.int .i64 0, .int .i64 0, .nils, .nils]])]) m.es hm.es hs n
  rw [findE_cut hs hc]
  cases hx : m.es[i]? with
  | none =>
    have hb : hitB m.es n i = false := by simp [hitB, hx]
    rw [hb] at e
    simp (disch := omega) [Try.f24, hk, encMps, encEnt, noEnt, e, hb]
  | some x =>
    cases hb : hitB m.es n i with
    | false =>
      rw [hb] at e
      simp (disch := omega) [Try.f24, hk, encMps, encEnt, noEnt, e]
    | true =>
      rw [hb] at e
      simp (disch := omega) [Try.f24, hk, encMps, encEnt, noEnt, e, hx, -getElem?_pos]

def fndS (h : Heap) (m : Mps) (n : Int) (e : Ent) (b : Bool) (i : Nat) : St := ⟨[(6, I (i : Nat)), (2, .one (.ptr h.length 1 0 0)), (1, I n), (4, .one (.ptr (h.length + 1) 1 0 0)), (5, Bo b)],
  h ++ [some (.row 2 [encMps m]), some (.row 4 [if b then encEnt e else [.int .i64 0, .int .i64 0, .nils, .nils]])], []⟩
theorem fnd_loop (h : Heap) (m : Mps) (hm : m.Ok) (n : Int) : lpK 25 Try.f25 28 0 h (fndS h m n noEnt false 0) =
    some (match findI (fun _ e => e.n == n) 0 m.es with | some i => (.ret, fndS h m n ((m.es[i]?).getD noEnt) true i) | none => (.exit 0, fndS h m n noEnt false m.es.length)) := by
  have he := hm.es
  refine loop_search m.es (fun _ e => e.n == n) (fndS h m n noEnt false) (fun i => (.ret, fndS h m n ((m.es[i]?).getD noEnt) true i)) (.exit 0, fndS h m n noEnt false m.es.length) ?_ ?_ ?_
  · intro i x hx hi hp _
    simp (disch := omega) [round_eq, fndS, encMps, encEnt, Try.f25, lv25, hx, hi, wrap_i64, hp, -getElem?_pos]
  · intro i x hx hi hp _
    simp (disch := omega) [round_eq, fndS, encMps, encEnt, Try.f25, lv25, hx, hi, wrap_i64, hp, -getElem?_pos]
  · intro _
    simp (disch := omega) [round_eq, fndS, encMps, Try.f25, lv25]

theorem mfind' (h : Heap) (m : Mps) (hm : m.Ok) (n : Int) : CX 25 [.agg (encMps m), I n] h = some (.tup [.agg (encEnt ((findE m.es n).getD noEnt)), Bo (findE m.es n).isSome], h, []) := by
  refine CI_of Try.func25 rfl 0 ?_
  have hk : cfg.keep 25 = 0 := rfl
  have g := fnd_loop h m hm n
  simp [fndS, encMps, encEnt, lpK, lv25, Try.f25] at g
  unfold findE
  cases hq : findI (fun _ e => e.n == n) 0 m.es with
  | none =>
    rw [hq] at g
    simp (disch := omega) [Try.f25, lv25, hk, encMps, encEnt, noEnt, g]
  | some i =>
    rw [hq] at g
    obtain ⟨_, x, hx, _⟩ := findI_some hq
    simp only [Nat.sub_zero] at hx
    simp (disch := omega) [Try.f25, lv25, hk, encMps, encEnt, noEnt, g, hx, -getElem?_pos]

theorem sameEnt (h : Heap) (e : Ent) (he : e.Ok) : CX 26 [.agg (encEnt e), .agg (encEnt e)] h = some (Bo true, h, []) := by
  refine CI_of Try.func26 rfl 0 ?_
  have hk : cfg.keep 26 = 0 := rfl
  have h1 := he.ds
  have h2 := he.ps
  simp (disch := omega) [Try.f26, hk, encEnt, ints _ _ _ h2, pairs _ _ _ h1]
end Go.Proofs.Ytdkknhpdjcdmfaa.Abs
