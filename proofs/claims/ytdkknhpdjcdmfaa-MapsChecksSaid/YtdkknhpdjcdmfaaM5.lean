/- Maps: whether they may be, as both say. -/
import Derived.Test.YtdkknhpdjcdmfaaM4
set_option linter.unusedSimpArgs false
set_option linter.unusedVariables false
namespace Go.Proofs.Ytdkknhpdjcdmfaa.Abs
open Go Go.RowKit Go.Proofs

def mentryS (h : Heap) (m : Mps) (e : Ent) (r : Int) (i : Nat) (acc : List Int) : St := ⟨[(3, .one (.ptr h.length 1 0 0)), (2, .one (.ptr (h.length + 1) 1 0 0)), (22, I (i : Nat)), (21, I (e.ds.length : Nat)), (20, Sl (pairsOf e.ds)), (5, .one (.sl (h.length + 2) 1 acc.length 0 acc.length)), (4, I r)],
  h ++ [some (.row 4 [encEnt e]), some (.row 2 [encMps m]), some (.row 1 (intsOf acc))], []⟩
theorem take_snoc {α β : Type} (f : α → β) {xs : List α} {i : Nat} {x : α} (hx : xs[i]? = some x) : ((xs.take (i + 1)).map f) = (xs.take i).map f ++ [f x] := by
  rw [List.take_add_one, hx]; simp
theorem mentry_loop (h : Heap) (m : Mps) (e : Ent) (he : e.Ok) : lpK 58 Try.f58 66 0 h (mentryS h m e 0 0 []) =
    some (match findI (badDer e.ps) 0 e.ds with | some i => (.ret, mentryS h m e 8 i ((e.ds.take (i + 1)).map (·.1))) | none => (.exit 0, mentryS h m e 0 e.ds.length (e.ds.map (·.1)))) := by
  have q := qt58
  simp [Try.f58, quietFn, quietRegs] at q
  have h1 := he.ds
  have h2 := he.ps
  refine loop_search e.ds (badDer e.ps) (fun i => mentryS h m e 0 i ((e.ds.take i).map (·.1))) (fun i => (.ret, mentryS h m e 8 i ((e.ds.take (i + 1)).map (·.1)))) (.exit 0, mentryS h m e 0 e.ds.length (e.ds.map (·.1))) ?_ ?_ ?_
  · intro i x hx hi hp _
    simp only [badDer, Bool.or_eq_false_iff, Bool.not_eq_false'] at hp
    have hm : min i e.ds.length = i := by omega
    rw [take_snoc _ hx]
    simp (disch := omega) [round_eq, mentryS, encEnt, Try.f58, lv58, hx, hi, hm, wrap_i64, room_of, intsOf_snoc, q, contains _ e.ps h2, hp.1, hp.2, -getElem?_pos, -List.contains_eq_mem]
  · intro i x hx hi hp _
    have hm : min i e.ds.length = i := by omega
    rw [take_snoc _ hx]
    by_cases hc : e.ps.contains x.2 = true
    · have hp' : e.ps.contains x.1 = true := by simpa only [badDer, hc, Bool.not_true, Bool.false_or] using hp
      simp (disch := omega) [round_eq, mentryS, encEnt, Try.f58, lv58, hx, hi, hm, wrap_i64, room_of, intsOf_snoc, q, contains _ e.ps h2, hc, hp', -getElem?_pos, -List.contains_eq_mem]
    · rw [Bool.not_eq_true] at hc
      simp (disch := omega) [round_eq, mentryS, encEnt, Try.f58, lv58, hx, hi, hm, wrap_i64, room_of, intsOf_snoc, q, contains _ e.ps h2, hc, -getElem?_pos, -List.contains_eq_mem]
  · intro _
    simp (disch := omega) [round_eq, mentryS, encEnt, Try.f58, lv58]

theorem mentry (h : Heap) (m : Mps) (hm : m.Ok) (e : Ent) (he : e.Ok) : CX 58 [.agg (encMps m), .agg (encEnt e)] h = some (I (entryF m.sizes e), h, []) := by
  refine CI_of Try.func58 rfl 0 ?_
  have hk : cfg.keep 58 = 0 := rfl
  have q := qt58
  simp [Try.f58, quietFn, quietRegs] at q
  have h1 := he.ds
  have h2 := he.ps
  have h3 : Fit (e.ds.map (·.1)) := by simpa [Fit] using h1
  have hs := hm.sizes
  by_cases c1 : e.f < 0
  · simp (disch := omega) [Try.f58, lv58, hk, q, encEnt, encMps, entryF, c1]
  by_cases c2 : (m.sizes.length : Int) ≤ e.f
  · simp (disch := omega) [Try.f58, lv58, hk, q, encEnt, encMps, entryF, c1, c2]
  have g := mentry_loop h m e he
  simp [mentryS, encEnt, encMps, lpK, lv58, Try.f58] at g
  have c3 : 0 ≤ e.f := by omega
  obtain ⟨s, hs'⟩ : ∃ s, m.sizes[e.f.toNat]? = some s := ⟨m.sizes[e.f.toNat]'(by omega), List.getElem?_eq_getElem (by omega)⟩
  cases hh : findI (badDer e.ps) 0 e.ds with
  | some i =>
    rw [hh] at g
    simp (disch := omega) [Try.f58, lv58, hk, q, encEnt, encMps, entryF, c1, c2, hh, g]
  | none =>
    rw [hh] at g
    cases r1 : rises s e.ps with
    | false => simp (disch := omega) [Try.f58, lv58, hk, q, encEnt, encMps, entryF, c1, c2, c3, hh, g, hs', List.getD, rising _ _ h2, r1, -getElem?_pos]
    | true =>
      cases r2 : rises s (e.ds.map (·.1)) <;>
      simp (disch := omega) [Try.f58, lv58, hk, q, encEnt, encMps, entryF, c1, c2, c3, hh, g, hs', List.getD, rising _ _ h2, rising _ _ h3, r1, r2, -getElem?_pos]

/-- What is wrong with maps, and where. -/
def badSize (_ : Nat) (n : Int) : Bool := decide (n < 0) || decide (n > 4096)
def lastN (es : List Ent) (i : Nat) : Int := if i = 0 then 0 else match es[i - 1]? with | some e => e.n | none => 0
def badEnt (m : Mps) (i : Nat) (e : Ent) : Bool := decide (e.n ≤ lastN m.es i) || decide (e.n > 1048576) || decide (entryF m.sizes e ≠ 0)
def checkF (m : Mps) : Int × Int :=
  if 32 < m.sizes.length then (6, m.sizes.length) else
  match findI badSize 0 m.sizes with
  | some i => (18, i)
  | none => match findI (badEnt m) 0 m.es with
    | some i => match m.es[i]? with
      | some e => (if e.n ≤ lastN m.es i ∨ e.n > 1048576 then 19 else entryF m.sizes e, (m.sizes.length : Int) + i)
      | none => (0, 0)
    | none => (0, 0)
theorem lastN_succ {es : List Ent} {i : Nat} {e : Ent} (hx : es[i]? = some e) : lastN es (i + 1) = e.n := by simp [lastN, hx]

def checkS (h : Heap) (m : Mps) (r : Int × Int) (i : Nat) : St := ⟨[(1, .one (.ptr h.length 1 0 0)), (2, .one (.ptr (h.length + 1) 1 0 0)), (21, I (i : Nat)), (20, I (m.sizes.length : Nat)), (19, Sl (intsOf m.sizes)), (38, .junk), (37, .junk), (36, .junk), (5, .junk)],
  h ++ [some (.row 2 [encMps m]), some (.row 2 [[.int .i64 r.1, .int .i64 r.2]])], []⟩
theorem check_sizes (h : Heap) (m : Mps) (hm : m.Ok) : lpK 22 Try.f22 71 0 h (checkS h m (0, 0) 0) =
    some (match findI badSize 0 m.sizes with | some i => (.ret, checkS h m (18, i) i) | none => (.exit 0, checkS h m (0, 0) m.sizes.length)) := by
  have hs := hm.sizes
  refine loop_search m.sizes badSize (checkS h m (0, 0)) (fun i => (.ret, checkS h m (18, i) i)) (.exit 0, checkS h m (0, 0) m.sizes.length) ?_ ?_ ?_
  · intro i x hx hi hp _
    simp [badSize] at hp
    simp (disch := omega) [round_eq, checkS, Try.f22, lv22, hx, hi, wrap_i64, show ¬ x < 0 by omega, show ¬ 4096 < x by omega, -getElem?_pos]
  · intro i x hx hi hp _
    simp [badSize] at hp
    by_cases c : x < 0
    · simp (disch := omega) [round_eq, checkS, Try.f22, lv22, hx, hi, wrap_i64, c, -getElem?_pos]
    · simp (disch := omega) [round_eq, checkS, Try.f22, lv22, hx, hi, wrap_i64, c, show 4096 < x by omega, -getElem?_pos]
  · intro _
    simp (disch := omega) [round_eq, checkS, Try.f22, lv22]

def checkE (h : Heap) (m : Mps) (r : Int × Int) (i : Nat) (last : Int) : St := ⟨[(1, .one (.ptr h.length 1 0 0)), (2, .one (.ptr (h.length + 1) 1 0 0)), (21, I (m.sizes.length : Nat)), (20, I (m.sizes.length : Nat)), (19, Sl (intsOf m.sizes)), (38, I (i : Nat)), (37, I (m.es.length : Nat)), (36, Sl (entsOf m.es)), (5, I last)],
  h ++ [some (.row 2 [encMps m]), some (.row 2 [[.int .i64 r.1, .int .i64 r.2]])], []⟩
def hitE (m : Mps) (i : Nat) : (Int × Int) × Int := match m.es[i]? with
  | some e => if e.n ≤ lastN m.es i ∨ e.n > 1048576 then ((19, (m.sizes.length : Int) + i), lastN m.es i) else ((entryF m.sizes e, (m.sizes.length : Int) + i), e.n)
  | none => ((0, 0), 0)
theorem check_ents (h : Heap) (m : Mps) (hm : m.Ok) : lpK 22 Try.f22 71 1 h (checkE h m (0, 0) 0 0) =
    some (match findI (badEnt m) 0 m.es with | some i => (.ret, checkE h m (hitE m i).1 i (hitE m i).2) | none => (.exit 2, checkE h m (0, 0) m.es.length (lastN m.es m.es.length))) := by
  have hs := hm.sizes
  have he := hm.es
  refine loop_search m.es (badEnt m) (fun i => checkE h m (0, 0) i (lastN m.es i)) (fun i => (.ret, checkE h m (hitE m i).1 i (hitE m i).2)) (.exit 2, checkE h m (0, 0) m.es.length (lastN m.es m.es.length)) ?_ ?_ ?_
  · intro i x hx hi hp _
    simp [badEnt] at hp
    have ok := hm.each x (List.mem_of_getElem? hx)
    have en := mentry [] m hm x ok
    simp [encMps, encEnt, hp.2] at en
    simp (disch := omega) [round_eq, checkE, Try.f22, lv22, hx, hi, wrap_i64, encMps, encEnt, show ¬ x.n ≤ lastN m.es i by omega, show ¬ 1048576 < x.n by omega, lastN_succ hx, en, -getElem?_pos]
  · intro i x hx hi hp _
    simp [badEnt] at hp
    have ok := hm.each x (List.mem_of_getElem? hx)
    have en := mentry [] m hm x ok
    simp [encMps, encEnt] at en
    by_cases c1 : x.n ≤ lastN m.es i
    · simp (disch := omega) [round_eq, checkE, hitE, Try.f22, lv22, hx, hi, wrap_i64, encMps, encEnt, c1, -getElem?_pos]
    by_cases c2 : 1048576 < x.n
    · simp (disch := omega) [round_eq, checkE, hitE, Try.f22, lv22, hx, hi, wrap_i64, encMps, encEnt, c1, c2, -getElem?_pos]
    have c3 : (entryF m.sizes x != 0) = true := by simp; omega
    simp (disch := omega) [round_eq, checkE, hitE, Try.f22, lv22, hx, hi, wrap_i64, encMps, encEnt, c1, c2, c3, en, -getElem?_pos]
  · intro _
    simp (disch := omega) [round_eq, checkE, Try.f22, lv22, encMps]

theorem check (h : Heap) (m : Mps) (hm : m.Ok) : CX 22 [.agg (encMps m)] h = some (.agg [.int .i64 (checkF m).1, .int .i64 (checkF m).2], h, []) := by
  refine CI_of Try.func22 rfl 0 ?_
  have hk : cfg.keep 22 = 0 := rfl
  have hs := hm.sizes
  by_cases c1 : 32 < m.sizes.length
  · have c1' : (32 : Int) < m.sizes.length := by omega
    simp (disch := omega) [Try.f22, lv22, hk, encMps, checkF, c1, c1']
  have c1' : ¬ (32 : Int) < m.sizes.length := by omega
  have g := check_sizes h m hm
  simp [checkS, encMps, lpK, lv22, Try.f22] at g
  cases h1 : findI badSize 0 m.sizes with
  | some i =>
    rw [h1] at g
    simp (disch := omega) [Try.f22, lv22, hk, encMps, checkF, c1, c1', h1, g]
  | none =>
    rw [h1] at g
    have g2 := check_ents h m hm
    simp [checkE, encMps, lpK, lv22, Try.f22] at g2
    cases h2 : findI (badEnt m) 0 m.es with
    | none =>
      rw [h2] at g2
      simp (disch := omega) [Try.f22, lv22, hk, encMps, checkF, c1, c1', h1, g, h2, g2]
    | some i =>
      rw [h2] at g2
      obtain ⟨_, x, hx, _⟩ := findI_some h2
      simp only [Nat.sub_zero] at hx
      by_cases c2 : x.n ≤ lastN m.es i ∨ x.n > 1048576 <;>
      simp (disch := omega) [Try.f22, lv22, hk, encMps, checkF, c1, c1', h1, g, h2, g2, hitE, hx, c2, -getElem?_pos]
end Go.Proofs.Ytdkknhpdjcdmfaa.Abs
