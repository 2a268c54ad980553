/- Maps: whether they may be, as the document says; what is told of a safepoint. -/
import Derived.Test.YtdkknhpdjcdmfaaM5
set_option linter.unusedSimpArgs false
set_option linter.unusedVariables false
namespace Go.Proofs.Ytdkknhpdjcdmfaa.Abs
open Go Go.RowKit Go.Proofs

def chkS (h : Heap) (m : Mps) (r : Int × Int) (x y : V) : St := ⟨[(1, .one (.ptr h.length 1 0 0)), (2, .one (.ptr (h.length + 1) 1 0 0)), (3, x), (4, y)],
  h ++ [some (.row 2 [encMps m]), some (.row 2 [[.int .i64 r.1, .int .i64 r.2]])], []⟩
theorem chk_sizes (h : Heap) (m : Mps) (hm : m.Ok) : lpK 23 Try.f23 88 0 h (chkS h m (0, 0) (I (0 : Nat)) .junk) =
    some (match findI badSize 0 m.sizes with | some i => (.ret, chkS h m (18, i) (I i) .junk) | none => (.exit 0, chkS h m (0, 0) (I m.sizes.length) .junk)) := by
  have hs := hm.sizes
  refine loop_search m.sizes badSize (fun i => chkS h m (0, 0) (I (i : Nat)) .junk) (fun i => (.ret, chkS h m (18, i) (I i) .junk)) (.exit 0, chkS h m (0, 0) (I m.sizes.length) .junk) ?_ ?_ ?_
  · intro i x hx hi hp _
    simp [badSize] at hp
    simp (disch := omega) [round_eq, chkS, encMps, Try.f23, lv23, hx, hi, wrap_i64, show ¬ x < 0 by omega, show ¬ 4096 < x by omega, -getElem?_pos]
  · intro i x hx hi hp _
    simp [badSize] at hp
    by_cases c : x < 0
    · simp (disch := omega) [round_eq, chkS, encMps, Try.f23, lv23, hx, hi, wrap_i64, c, -getElem?_pos]
    · simp (disch := omega) [round_eq, chkS, encMps, Try.f23, lv23, hx, hi, wrap_i64, c, show 4096 < x by omega, -getElem?_pos]
  · intro _
    simp (disch := omega) [round_eq, chkS, encMps, Try.f23, lv23]

theorem chk_ents (h : Heap) (m : Mps) (hm : m.Ok) : lpK 23 Try.f23 88 1 h (chkS h m (0, 0) (I m.sizes.length) (I (0 : Nat))) =
    some (match findI (badEnt m) 0 m.es with | some i => (.ret, chkS h m (hitE m i).1 (I m.sizes.length) (I i)) | none => (.exit 2, chkS h m (0, 0) (I m.sizes.length) (I m.es.length))) := by
  have hs := hm.sizes
  have he := hm.es
  refine loop_search m.es (badEnt m) (fun i => chkS h m (0, 0) (I m.sizes.length) (I (i : Nat))) (fun i => (.ret, chkS h m (hitE m i).1 (I m.sizes.length) (I i))) (.exit 2, chkS h m (0, 0) (I m.sizes.length) (I m.es.length)) ?_ ?_ ?_
  · intro i x hx hi hp _
    simp [badEnt] at hp
    have ok := hm.each x (List.mem_of_getElem? hx)
    have en := entry' [] m hm x ok
    simp [encMps, encEnt, hp.2] at en
    rcases Nat.eq_zero_or_pos i with h0 | h0
    · have hl : lastN m.es i = 0 := by simp [lastN, h0]
      rw [hl] at hp
      simp (disch := omega) [round_eq, chkS, Try.f23, lv23, hx, hi, wrap_i64, encMps, encEnt, show ¬ x.n ≤ 0 by omega, show ¬ 1048576 < x.n by omega, show ¬ 0 < i by omega, en, -getElem?_pos]
    · obtain ⟨y, hy⟩ : ∃ y, m.es[i - 1]? = some y := ⟨m.es[i - 1]'(by omega), List.getElem?_eq_getElem (by omega)⟩
      have hl : lastN m.es i = y.n := by simp [lastN, show ¬ i = 0 by omega, hy]
      rw [hl] at hp
      have hc : ((i : Int) - 1) = ((i - 1 : Nat) : Int) := by omega
      simp (disch := omega) [round_eq, chkS, Try.f23, lv23, hx, hi, wrap_i64, encMps, encEnt, show ¬ x.n ≤ y.n by omega, show ¬ 1048576 < x.n by omega, h0, hc, hy, en, -getElem?_pos]
  · intro i x hx hi hp _
    simp [badEnt] at hp
    have ok := hm.each x (List.mem_of_getElem? hx)
    have en := entry' [] m hm x ok
    simp [encMps, encEnt] at en
    rcases Nat.eq_zero_or_pos i with h0 | h0
    · have hl : lastN m.es i = 0 := by simp [lastN, h0]
      rw [hl] at hp
      by_cases c1 : x.n ≤ 0
      · simp (disch := omega) [round_eq, chkS, hitE, hl, Try.f23, lv23, hx, hi, wrap_i64, encMps, encEnt, c1, show ¬ 0 < i by omega, -getElem?_pos]
      by_cases c2 : 1048576 < x.n
      · simp (disch := omega) [round_eq, chkS, hitE, hl, Try.f23, lv23, hx, hi, wrap_i64, encMps, encEnt, c1, c2, show ¬ 0 < i by omega, -getElem?_pos]
      have c3 : (entryF m.sizes x != 0) = true := by simp; omega
      simp (disch := omega) [round_eq, chkS, hitE, hl, Try.f23, lv23, hx, hi, wrap_i64, encMps, encEnt, c1, c2, c3, en, show ¬ 0 < i by omega, -getElem?_pos]
    · obtain ⟨y, hy⟩ : ∃ y, m.es[i - 1]? = some y := ⟨m.es[i - 1]'(by omega), List.getElem?_eq_getElem (by omega)⟩
      have hl : lastN m.es i = y.n := by simp [lastN, show ¬ i = 0 by omega, hy]
      rw [hl] at hp
      have hc : ((i : Int) - 1) = ((i - 1 : Nat) : Int) := by omega
      by_cases c1 : x.n ≤ y.n
      · simp (disch := omega) [round_eq, chkS, hitE, hl, Try.f23, lv23, hx, hi, wrap_i64, encMps, encEnt, c1, h0, hc, hy, -getElem?_pos]
      by_cases c2 : 1048576 < x.n
      · simp (disch := omega) [round_eq, chkS, hitE, hl, Try.f23, lv23, hx, hi, wrap_i64, encMps, encEnt, c1, c2, h0, hc, hy, -getElem?_pos]
      have c3 : (entryF m.sizes x != 0) = true := by simp; omega
      simp (disch := omega) [round_eq, chkS, hitE, hl, Try.f23, lv23, hx, hi, wrap_i64, encMps, encEnt, c1, c2, c3, en, h0, hc, hy, -getElem?_pos]
  · intro _
    simp (disch := omega) [round_eq, chkS, Try.f23, lv23, encMps]

theorem check' (h : Heap) (m : Mps) (hm : m.Ok) : CX 23 [.agg (encMps m)] h = some (.agg [.int .i64 (checkF m).1, .int .i64 (checkF m).2], h, []) := by
  refine CI_of Try.func23 rfl 0 ?_
  have hk : cfg.keep 23 = 0 := rfl
  have hs := hm.sizes
  by_cases c1 : 32 < m.sizes.length
  · have c1' : (32 : Int) < m.sizes.length := by omega
    simp (disch := omega) [Try.f23, lv23, hk, encMps, checkF, c1, c1']
  have c1' : ¬ (32 : Int) < m.sizes.length := by omega
  have g := chk_sizes h m hm
  simp [chkS, encMps, lpK, lv23, Try.f23] at g
  cases h1 : findI badSize 0 m.sizes with
  | some i =>
    rw [h1] at g
    simp (disch := omega) [Try.f23, lv23, hk, encMps, checkF, c1, c1', h1, g]
  | none =>
    rw [h1] at g
    have g2 := chk_ents h m hm
    simp [chkS, encMps, lpK, lv23, Try.f23] at g2
    cases h2 : findI (badEnt m) 0 m.es with
    | none =>
      rw [h2] at g2
      simp (disch := omega) [Try.f23, lv23, hk, encMps, checkF, c1, c1', h1, g, h2, g2]
    | some i =>
      rw [h2] at g2
      obtain ⟨_, x, hx, _⟩ := findI_some h2
      simp only [Nat.sub_zero] at hx
      by_cases c2 : x.n ≤ lastN m.es i ∨ x.n > 1048576 <;>
      simp (disch := omega) [Try.f23, lv23, hk, encMps, checkF, c1, c1', h1, g, h2, g2, hitE, hx, c2, -getElem?_pos]
end Go.Proofs.Ytdkknhpdjcdmfaa.Abs
