/- Maps: whether an entry may be, as both say. -/
import Derived.Test.YtdkknhpdjcdmfaaM3
set_option linter.unusedSimpArgs false
set_option linter.unusedVariables false
namespace Go.Proofs.Ytdkknhpdjcdmfaa.Abs
open Go Go.RowKit Go.Proofs

def badDer (ps : List Int) (_ : Nat) (d : Int × Int) : Bool := !ps.contains d.2 || ps.contains d.1

def entryF (sizes : List Int) (e : Ent) : Int :=
  if e.f < 0 ∨ (sizes.length : Int) ≤ e.f then 12 else
  if (findI (badDer e.ps) 0 e.ds).isSome then 8 else
  if rises (sizes.getD e.f.toNat 0) e.ps && rises (sizes.getD e.f.toNat 0) (e.ds.map (·.1)) then 0 else 19

def entryS (h : Heap) (m : Mps) (e : Ent) (r : Int) (i : Nat) : St := ⟨[(3, .one (.ptr h.length 1 0 0)), (2, .one (.ptr (h.length + 1) 1 0 0)), (5, I (i : Nat)), (4, I r)], h ++ [some (.row 4 [encEnt e]), some (.row 2 [encMps m])], []⟩
theorem entry_loop' (h : Heap) (m : Mps) (e : Ent) (he : e.Ok) : lpK 59 Try.f59 68 0 h (entryS h m e 0 0) =
    some (match findI (badDer e.ps) 0 e.ds with | some i => (.ret, entryS h m e 8 i) | none => (.exit 0, entryS h m e 0 e.ds.length)) := by
  have q := qt59
  simp [Try.f59, quietFn, quietRegs] at q
  have h1 := he.ds
  have h2 := he.ps
  refine loop_search e.ds (badDer e.ps) (entryS h m e 0) (fun i => (.ret, entryS h m e 8 i)) (.exit 0, entryS h m e 0 e.ds.length) ?_ ?_ ?_
  · intro i x hx hi hp _
    simp only [badDer, Bool.or_eq_false_iff, Bool.not_eq_false'] at hp
    simp (disch := omega) [round_eq, entryS, encEnt, Try.f59, lv59, hx, hi, wrap_i64, q, has _ e.ps h2, hp.1, hp.2, -getElem?_pos, -List.contains_eq_mem]
  · intro i x hx hi hp _
    by_cases hc : e.ps.contains x.2 = true
    · have hp' : e.ps.contains x.1 = true := by simpa only [badDer, hc, Bool.not_true, Bool.false_or] using hp
      simp (disch := omega) [round_eq, entryS, encEnt, Try.f59, lv59, hx, hi, wrap_i64, q, has _ e.ps h2, hc, hp', -getElem?_pos, -List.contains_eq_mem]
    · rw [Bool.not_eq_true] at hc
      simp (disch := omega) [round_eq, entryS, encEnt, Try.f59, lv59, hx, hi, wrap_i64, q, has _ e.ps h2, hc, -getElem?_pos, -List.contains_eq_mem]
  · intro _
    simp (disch := omega) [round_eq, entryS, encEnt, Try.f59, lv59]

theorem entry' (h : Heap) (m : Mps) (hm : m.Ok) (e : Ent) (he : e.Ok) : CX 59 [.agg (encMps m), .agg (encEnt e)] h = some (I (entryF m.sizes e), h, []) := by
  refine CI_of Try.func59 rfl 0 ?_
  have hk : cfg.keep 59 = 0 := rfl
  have q := qt59
  simp [Try.f59, quietFn, quietRegs] at q
  have h1 := he.ds
  have h2 := he.ps
  have h3 : Fit (e.ds.map (·.1)) := by simpa [Fit] using h1
  have hs := hm.sizes
  by_cases c1 : e.f < 0
  · simp (disch := omega) [Try.f59, lv59, hk, q, encEnt, encMps, entryF, c1]
  by_cases c2 : (m.sizes.length : Int) ≤ e.f
  · simp (disch := omega) [Try.f59, lv59, hk, q, encEnt, encMps, entryF, c1, c2]
  have g := entry_loop' h m e he
  simp [entryS, encEnt, encMps, lpK, lv59, Try.f59] at g
  have c3 : 0 ≤ e.f := by omega
  obtain ⟨s, hs'⟩ : ∃ s, m.sizes[e.f.toNat]? = some s := ⟨m.sizes[e.f.toNat]'(by omega), List.getElem?_eq_getElem (by omega)⟩
  cases hh : findI (badDer e.ps) 0 e.ds with
  | some i =>
    rw [hh] at g
    simp (disch := omega) [Try.f59, lv59, hk, q, encEnt, encMps, entryF, c1, c2, hh, g]
  | none =>
    rw [hh] at g
    cases r1 : rises s e.ps with
    | false => simp (disch := omega) [Try.f59, lv59, hk, q, encEnt, encMps, entryF, c1, c2, c3, hh, g, hs', List.getD, rising' _ _ h2, r1, -getElem?_pos]
    | true =>
      cases r2 : rises s (e.ds.map (·.1)) <;>
      simp (disch := omega) [Try.f59, lv59, hk, q, encEnt, encMps, entryF, c1, c2, c3, hh, g, hs', List.getD, rising' _ _ h2, rising' _ _ h3, ders _ _ h1, r1, r2, -getElem?_pos]
end Go.Proofs.Ytdkknhpdjcdmfaa.Abs
