/- YtdkknhpdjcdmfaaGreatJT47: texts that follow each other, as one. -/
import Derived.Test.YtdkknhpdjcdmfaaGreatJT45
import Derived.Test.YtdkknhpdjcdmfaaGreatJT46
/- Who goes back to a head, who is in its loop: as the document tells it. -/
set_option linter.unusedSimpArgs false
set_option linter.unusedVariables false
set_option linter.unusedSectionVars false
namespace Go.Proofs.YtdkknhpdjcdmfaaGreat.Abs
open Go Go.RowKit Go.Proofs

/-! Ways, told backward. -/
theorem rch_pre {E : List (List Int)} {but : Int} {w k : Nat} (hw : (w : Int) ≠ but) (hk : (k : Int) ∈ E.getD w []) {e : Nat} (h : Rch E [(k : Int)] but e) : Rch E [(w : Int)] but e := by
  induction h with
  | start h hb =>
    rename_i v
    have : v = k := by
      have := List.mem_singleton.1 h
      omega
    subst this
    exact .step (.start (by simp) hw) hk hb
  | step _ h2 h3 ih => exact .step ih h2 h3
theorem rch_back {ss : List (List Int)} (hs : Edges ss) {bk : List Int} {but : Int} {k : Nat} : Rch (predsF ss) bk but k ↔ ∃ e : Nat, (e : Int) ∈ bk ∧ (e : Int) ≠ but ∧ Rch ss [(k : Int)] but e := by
  constructor
  · intro h
    induction h with
    | start h hb =>
      rename_i v
      exact ⟨v, h, hb, .start (by simp) hb⟩
    | step hk hw hb ih =>
      rename_i k w
      obtain ⟨e, h1, h2, h3⟩ := ih
      have hkl := getD_lt hw
      rw [predsF_len] at hkl
      have h4 := ((preds_mem hs hkl).1 hw).2
      rw [Int.toNat_natCast] at h4
      exact ⟨e, h1, h2, rch_pre hb h4 h3⟩
  · rintro ⟨e, h1, h2, h3⟩
    have key : ∀ v, Rch ss [(k : Int)] but v → Rch (predsF ss) bk but v → Rch (predsF ss) bk but k := by
      intro v h
      induction h with
      | start h hb =>
        rename_i v
        intro hv
        have : v = k := by
          have := List.mem_singleton.1 h
          omega
        rwa [this] at hv
      | step hk hw hb ih =>
        rename_i k1 w
        intro hv
        have hb0 := edges_at hs k1 _ hw
        exact ih (.step hv ((preds_mem hs (by omega)).2 ⟨by omega, by rw [Int.toNat_natCast]; exact hw⟩) hk.not_but)
    exact key e h3 (.start h1 h2)

def inS (h : Heap) (f : Fn) (hd k : Nat) (fr : List Int) (i : Nat) (r : Bool) : St :=
  ⟨[(3, I (k : Nat)), (1, I (hd : Nat)), (9, I (i : Nat)), (2, Sl (intsOf fr)), (4, .one (.ptr h.length 1 0 0)), (8, Bo r)], h ++ [some (.row 5 [encFn f])], []⟩
theorem in_loop (h : Heap) (f : Fn) (hf : f.Fine) (hd k : Nat) (hk : k < f.blocks.length) (hne : (k : Int) ≠ (hd : Int)) (fr : List Int) (hfl : fr.length ≤ 100000) (hfr : ∀ e, e ∈ fr → 0 ≤ e ∧ e < f.blocks.length) :
    ∃ r, lpK 139 Tryz.f139 34 0 h (inS h f hd k fr 0 false) = some r ∧ ((∃ i : Nat, r = (.ret, inS h f hd k fr i true) ∧ ∃ e : Nat, (e : Int) ∈ fr ∧ Rch (f.blocks.map nextB) [(k : Int)] (hd : Int) e) ∨
      (r = (.exit 0, inS h f hd k fr fr.length false) ∧ ∀ e : Nat, (e : Int) ∈ fr → ¬ Rch (f.blocks.map nextB) [(k : Int)] (hd : Int) e)) := by
  have d := dt139
  simp [Tryz.f139, infoFn, infoRegs, List.lookup] at d
  have hb := hf.len
  have hsl : (f.blocks.map nextB).length = f.blocks.length := by simp
  have hneB : ((k : Int) != (hd : Int)) = true := by simp; omega
  have e1 := fun h => succs8 h f hf.ok hf.ended hb
  simp [encFn] at e1
  refine loop_rel (P := Tryz.prog) (C := cfg) (sc := runScope Tryz.prog cfg 34 h.length (cfg.live 139) 0) (N := 34) (n0 := h.length) (K := cfg.live 139) (c := loopAt Tryz.f139 0)
    (fun i : Nat => inS h f hd k fr i false) (fun i => i ≤ fr.length ∧ ∀ (j e : Nat), fr[j]? = some (e : Int) → j < i → ¬ Rch (f.blocks.map nextB) [(k : Int)] (hd : Int) e) (fun i => fr.length - i)
    (fun _ r => (∃ i : Nat, r = (.ret, inS h f hd k fr i true) ∧ ∃ e : Nat, (e : Int) ∈ fr ∧ Rch (f.blocks.map nextB) [(k : Int)] (hd : Int) e) ∨
      (r = (.exit 0, inS h f hd k fr fr.length false) ∧ ∀ e : Nat, (e : Int) ∈ fr → ¬ Rch (f.blocks.map nextB) [(k : Int)] (hd : Int) e)) ?_ 0 ⟨Nat.zero_le _, fun j e _ hj => by omega⟩
  rintro i ⟨j1, j2⟩
  rcases Nat.lt_or_ge i fr.length with hlt | hge
  · have hltI : ((i : Nat) : Int) < ((fr.length : Nat) : Int) := by omega
    obtain ⟨x, hx⟩ : ∃ x, fr[i]? = some x := ⟨_, List.getElem?_eq_getElem hlt⟩
    have hxr := hfr x (List.mem_of_getElem? hx)
    obtain ⟨e, rfl⟩ : ∃ e : Nat, x = (e : Int) := ⟨x.toNat, by omega⟩
    have e2 := path [] (f.blocks.map nextB) k e (hd : Int) hne (by omega) (by omega) (by omega) (fun l hl => by
      have := hf.edges.each l hl
      exact ⟨by omega, this.2⟩)
    have hz : intsOf [(k : Int)] = [[Leaf.int .i64 (k : Int)]] := rfl
    rw [hz] at e2
    cases hr : rchB (f.blocks.map nextB) k (hd : Int) e with
    | true =>
      rw [hr] at e2
      refine .inr ⟨(.ret, inS h f hd k fr i true), ?_, nofun, .inl ⟨i, rfl, e, List.mem_of_getElem? hx, rchB_iff.1 hr⟩⟩
      simp (disch := (first | omega | simp (disch := omega) [])) [round_eq, inS, encFn, Tryz.f139, lv139, hlt, hltI, hx, hneB, hne, e1, e2, d, unOK, apartR, disjoint, cellsApart, wrap_i64, -getElem?_pos]
    | false =>
      rw [hr] at e2
      refine .inl ⟨i + 1, ?_, ⟨hlt, fun j e' hj hji => ?_⟩, by omega, fun r h => h⟩
      · simp (disch := (first | omega | simp (disch := omega) [])) [round_eq, inS, encFn, Tryz.f139, lv139, hlt, hltI, hx, hneB, hne, e1, e2, d, unOK, apartR, disjoint, cellsApart, wrap_i64, -getElem?_pos]
      · rcases Nat.lt_or_ge j i with h' | h'
        · exact j2 j e' hj h'
        · obtain rfl : j = i := by omega
          rw [hx] at hj
          obtain rfl : e = e' := by injection hj with hj; omega
          exact fun hrr => by rw [← rchB_iff, hr] at hrr; cases hrr
  · have : i = fr.length := by omega
    subst this
    refine .inr ⟨(.exit 0, inS h f hd k fr fr.length false), ?_, nofun, .inr ⟨rfl, fun e he => ?_⟩⟩
    · simp (disch := omega) [round_eq, inS, encFn, Tryz.f139, lv139, -getElem?_pos]
    · obtain ⟨j, hj⟩ := List.getElem?_of_mem he
      exact j2 j e hj (List.getElem?_eq_some_iff.1 hj).1

theorem in10 (h : Heap) (f : Fn) (hf : f.Fine) (hd k : Nat) (hh : hd < f.blocks.length) (hk : k < f.blocks.length) :
    CX 139 [.agg (encFn f), I (hd : Nat), Sl (intsOf (bkN (f.blocks.map nextB) hd f.blocks.length)), I (k : Nat)] h = some (Bo (inB (f.blocks.map nextB) hd k), h, []) := by
  have hk' : cfg.keep 139 = 0 := rfl
  have hsl : (f.blocks.map nextB).length = f.blocks.length := by simp
  by_cases hne : k = hd
  · have hb : inB (f.blocks.map nextB) hd k = true := inB_iff.2 (.inr (by omega))
    rw [hb]
    subst hne
    refine CI_of Tryz.func139 rfl 0 ?_
    simp (disch := omega) [Tryz.f139, lv139, hk', encFn, -getElem?_pos]
  · have hneB : ((k : Int) == (hd : Int)) = false := by rw [beq_eq_false_iff_ne]; omega
    have hlen := bkN_len (f.blocks.map nextB) hd f.blocks.length
    have hb := hf.len
    obtain ⟨r, e, hr⟩ := in_loop h f hf hd k hk (by omega) (bkN (f.blocks.map nextB) hd f.blocks.length) (by omega) (fun e he => by
      obtain ⟨k, rfl, h1, _⟩ := (bkN_mem _).1 he
      omega)
    have hin : inB (f.blocks.map nextB) hd k = true ↔ ∃ e : Nat, (e : Int) ∈ bkN (f.blocks.map nextB) hd f.blocks.length ∧ Rch (f.blocks.map nextB) [(k : Int)] (hd : Int) e := by
      rw [inB_iff]
      unfold InP
      rw [rch_back hf.edges, hsl]
      constructor
      · rintro (⟨e, h1, h2, h3⟩ | h1)
        · exact ⟨e, h1, h3⟩
        · omega
      · rintro ⟨e, h1, h3⟩
        exact .inl ⟨e, h1, h3.not_but, h3⟩
    generalize bkN (f.blocks.map nextB) hd f.blocks.length = fr at *
    rcases hr with ⟨i, rfl, hr⟩ | ⟨rfl, hr⟩
    · rw [hin.2 hr]
      refine CI_of Tryz.func139 rfl 0 ?_
      simp [inS, encFn, lpK, lv139, Tryz.f139] at e
      simp (disch := omega) [Tryz.f139, lv139, hk', encFn, hneB, e, -getElem?_pos]
    · have : inB (f.blocks.map nextB) hd k = false := by
        rw [← Bool.not_eq_true, hin]
        rintro ⟨e, h1, h2⟩
        exact hr e h1 h2
      rw [this]
      refine CI_of Tryz.func139 rfl 0 ?_
      simp [inS, encFn, lpK, lv139, Tryz.f139] at e
      simp (disch := omega) [Tryz.f139, lv139, hk', encFn, hneB, e, -getElem?_pos]

def bkS (h : Heap) (f : Fn) (rows : List (List Bool)) (hd k : Nat) (out : List Int) : St :=
  ⟨[(8, I (k : Nat)), (3, .one (.ptr h.length 1 0 0)), (2, I (hd : Nat)), (1, Sl (tabOf rows)), (7, .one (.sl (h.length + 1) 1 out.length 0 out.length))], h ++ [some (.row 5 [encFn f]), some (.row 1 (intsOf out))], []⟩
theorem bk_loop (h : Heap) (f : Fn) (hf : f.Fine) (rows : List (List Bool)) (G : TabG f.blocks.length (f.blocks.map nextB) rows) (hd : Nat) (hh : hd < f.blocks.length) :
    lpK 138 Tryz.f138 32 0 h (bkS h f rows hd 0 []) = some (.exit 0, bkS h f rows hd f.blocks.length (bkN (f.blocks.map nextB) hd f.blocks.length)) := by
  have hb := hf.len
  have key := loop_fun (P := Tryz.prog) (C := cfg) (sc := runScope Tryz.prog cfg 32 h.length (cfg.live 138) 0) (N := 32) (n0 := h.length) (K := cfg.live 138) (c := loopAt Tryz.f138 0)
    (fun k : Nat => bkS h f rows hd k (bkN (f.blocks.map nextB) hd k)) (fun k => k ≤ f.blocks.length) (fun k => f.blocks.length - k) (fun _ => (.exit 0, bkS h f rows hd f.blocks.length (bkN (f.blocks.map nextB) hd f.blocks.length))) ?_ 0 (Nat.zero_le _)
  · exact key
  intro k hk
  have hlen := bkN_len (f.blocks.map nextB) hd k
  rcases Nat.lt_or_ge k f.blocks.length with hlt | hge
  · have hltI : ((k : Nat) : Int) < ((f.blocks.length : Nat) : Int) := by omega
    obtain ⟨l, hl⟩ : ∃ l, f.blocks[k]? = some l := ⟨_, List.getElem?_eq_getElem hlt⟩
    have hgd : (f.blocks.map nextB).getD k [] = nextB l := by rw [List.getD, List.getElem?_map, hl]; rfl
    have hnl := (hf.edges.each (nextB l) (List.mem_map.2 ⟨l, List.mem_of_getElem? hl, rfl⟩)).1
    have hfit : Fit (nextB l) := by show (nextB l).length ≤ _; omega
    have e1 := fun h => next h f hf.ok hf.ended k l hl
    obtain ⟨x, e2, hx⟩ := tab_get G (by omega) hh hlt
    have hxa : x = ahB (f.blocks.map nextB) (hd : Int) (k : Int) := by rw [Bool.eq_iff_iff, ahB_nat]; exact hx
    refine .inl ⟨k + 1, ?_, hlt, by omega, rfl⟩
    rw [bkN, hgd, ← hxa]
    generalize bkN (f.blocks.map nextB) hd k = out at *
    clear hx hxa
    simp [encFn] at e1
    cases hc : (nextB l).contains (hd : Int) with
    | false =>
      rw [if_neg (fun h => by have := h.1; simp at hc; exact hc this)]
      simp (disch := omega) [round_eq, bkS, encFn, Tryz.f138, lv138, hlt, hltI, e1, has _ (nextB l) hfit, hc, wrap_i64, -getElem?_pos, -List.contains_eq_mem]
    | true =>
      cases x with
      | false =>
        rw [if_neg (by simp)]
        simp (disch := omega) [round_eq, bkS, encFn, Tryz.f138, lv138, hlt, hltI, e1, e2, has _ (nextB l) hfit, hc, wrap_i64, -getElem?_pos, -List.contains_eq_mem]
      | true =>
        rw [if_pos ⟨by simpa using hc, rfl⟩]
        simp (disch := omega) [round_eq, bkS, encFn, Tryz.f138, lv138, hlt, hltI, e1, e2, has _ (nextB l) hfit, hc, room_of, intsOf_snoc, wrap_i64, -getElem?_pos, -List.contains_eq_mem]
  · have : k = f.blocks.length := by omega
    subst this
    refine .inr ⟨?_, nofun⟩
    generalize bkN (f.blocks.map nextB) hd f.blocks.length = out at *
    simp (disch := omega) [round_eq, bkS, encFn, Tryz.f138, lv138, -getElem?_pos]
theorem backs10 (h : Heap) (f : Fn) (hf : f.Fine) (rows : List (List Bool)) (G : TabG f.blocks.length (f.blocks.map nextB) rows) (hd : Nat) (hh : hd < f.blocks.length) :
    CX 138 [.agg (encFn f), Sl (tabOf rows), I (hd : Nat)] h = some (Sl (intsOf (bkN (f.blocks.map nextB) hd f.blocks.length)), h, []) := by
  have e := bk_loop h f hf rows G hd hh
  refine CI_of Tryz.func138 rfl 0 ?_
  have hk : cfg.keep 138 = 0 := rfl
  generalize bkN (f.blocks.map nextB) hd f.blocks.length = out at *
  simp [bkS, encFn, lpK, lv138, Tryz.f138] at e
  simp (disch := omega) [Tryz.f138, lv138, hk, encFn, e, -getElem?_pos]
end Go.Proofs.YtdkknhpdjcdmfaaGreat.Abs

/- The loops of a function, as the document tells them. -/
set_option linter.unusedSimpArgs false
set_option linter.unusedVariables false
set_option linter.unusedSectionVars false
namespace Go.Proofs.YtdkknhpdjcdmfaaGreat.Abs
open Go Go.RowKit Go.Proofs

def onS (h : Heap) (f : Fn) (hd : Nat) (fr : List Int) (k : Nat) (bl : List Int) : St :=
  ⟨[(3, .one (.ptr h.length 1 0 0)), (2, I (hd : Nat)), (8, Sl (intsOf fr)), (6, .one (.ptr (h.length + 1) 1 0 0)), (10, I (k : Nat)), (9, .one (.ptr (h.length + 2) 1 0 0))],
   h ++ [some (.row 5 [encFn f]), some (.row 4 [[.int .i64 0, .nils, .nils, .int .i64 0]]), some (.row 4 [[.int .i64 (hd : Nat), .sl (h.length + 3) 1 bl.length 0 bl.length, .isl (intsOf fr), .int .i64 (-1)]]), some (.row 1 (intsOf bl))], []⟩
theorem on_loop (h : Heap) (f : Fn) (hf : f.Fine) (hd : Nat) (hh : hd < f.blocks.length) :
    lpK 90 Tryz.f90 41 0 h (onS h f hd (bkN (f.blocks.map nextB) hd f.blocks.length) 0 []) = some (.exit 0, onS h f hd (bkN (f.blocks.map nextB) hd f.blocks.length) f.blocks.length (blkR (f.blocks.map nextB) hd f.blocks.length)) := by
  have hb := hf.len
  have key := loop_fun (P := Tryz.prog) (C := cfg) (sc := runScope Tryz.prog cfg 41 h.length (cfg.live 90) 0) (N := 41) (n0 := h.length) (K := cfg.live 90) (c := loopAt Tryz.f90 0)
    (fun k : Nat => onS h f hd (bkN (f.blocks.map nextB) hd f.blocks.length) k (blkR (f.blocks.map nextB) hd k)) (fun k => k ≤ f.blocks.length) (fun k => f.blocks.length - k)
    (fun _ => (.exit 0, onS h f hd (bkN (f.blocks.map nextB) hd f.blocks.length) f.blocks.length (blkR (f.blocks.map nextB) hd f.blocks.length))) ?_ 0 (Nat.zero_le _)
  · exact key
  intro k hk
  have hlen := blkR_len (f.blocks.map nextB) hd k
  rcases Nat.lt_or_ge k f.blocks.length with hlt | hge
  · have hltI : ((k : Nat) : Int) < ((f.blocks.length : Nat) : Int) := by omega
    have e1 := in10 [] f hf hd k hh hlt
    refine .inl ⟨k + 1, ?_, hlt, by omega, rfl⟩
    rw [blkR_next]
    generalize blkR (f.blocks.map nextB) hd k = bl at *
    generalize bkN (f.blocks.map nextB) hd f.blocks.length = fr at *
    simp [encFn] at e1
    cases hc : inB (f.blocks.map nextB) hd k with
    | false =>
      rw [hc] at e1
      rw [if_neg (by simp)]
      simp (disch := (first | omega | simp (disch := omega) [])) [round_eq, onS, encFn, Tryz.f90, lv90, hlt, hltI, e1, wrap_i64, -getElem?_pos]
    | true =>
      rw [hc] at e1
      rw [if_pos rfl]
      simp (disch := (first | omega | simp (disch := omega) [])) [round_eq, onS, encFn, Tryz.f90, lv90, hlt, hltI, e1, room_of, intsOf_snoc, wrap_i64, -getElem?_pos]
  · have : k = f.blocks.length := by omega
    subst this
    refine .inr ⟨?_, nofun⟩
    generalize blkR (f.blocks.map nextB) hd f.blocks.length = bl at *
    generalize bkN (f.blocks.map nextB) hd f.blocks.length = fr at *
    simp (disch := (first | omega | simp (disch := omega) [])) [round_eq, onS, encFn, Tryz.f90, lv90, -getElem?_pos]
theorem one10 (h : Heap) (f : Fn) (hf : f.Fine) (rows : List (List Bool)) (G : TabG f.blocks.length (f.blocks.map nextB) rows) (hd : Nat) (hh : hd < f.blocks.length) :
    CX 90 [.agg (encFn f), Sl (tabOf rows), I (hd : Nat)] h =
      if bkN (f.blocks.map nextB) hd f.blocks.length = [] then some (.tup [.agg [.int .i64 0, .isl [], .isl [], .int .i64 0], Bo false], h, []) else some (.tup [.agg [.int .i64 (hd : Nat), .isl (intsOf (blkR (f.blocks.map nextB) hd f.blocks.length)), .isl (intsOf (bkN (f.blocks.map nextB) hd f.blocks.length)), .int .i64 (-1)], Bo true], h, []) := by
  have hk : cfg.keep 90 = 0 := rfl
  have e1 := fun h => backs10 h f hf rows G hd hh
  have e2 := on_loop h f hf hd hh
  have hlen := blkR_len (f.blocks.map nextB) hd f.blocks.length
  have hlen2 := bkN_len (f.blocks.map nextB) hd f.blocks.length
  have hb := hf.len
  generalize blkR (f.blocks.map nextB) hd f.blocks.length = bl at *
  generalize bkN (f.blocks.map nextB) hd f.blocks.length = fr at *
  simp [encFn] at e1
  by_cases h0 : fr = []
  · rw [if_pos h0]
    subst h0
    refine CI_of Tryz.func90 rfl 0 ?_
    simp (disch := (first | omega | simp (disch := omega) [])) [Tryz.f90, lv90, hk, encFn, e1, -getElem?_pos]
  · rw [if_neg h0]
    have hfp := List.length_pos_iff.2 h0
    have hfB : (((fr.length : Nat) : Int) == 0) = false := by rw [beq_eq_false_iff_ne]; omega
    refine CI_of Tryz.func90 rfl 0 ?_
    simp [onS, encFn, lpK, lv90, Tryz.f90] at e2
    simp (disch := (first | omega | simp (disch := omega) [])) [Tryz.f90, lv90, hk, encFn, e1, e2, hfB, h0, -getElem?_pos]
end Go.Proofs.YtdkknhpdjcdmfaaGreat.Abs

/- Which loop is within which, how deep blocks are: as both tell it; the loops as the document tells them. -/
set_option linter.unusedSimpArgs false
set_option linter.unusedVariables false
set_option linter.unusedSectionVars false
namespace Go.Proofs.YtdkknhpdjcdmfaaGreat.Abs
open Go Go.RowKit Go.Proofs

def wjS (h : Heap) (ls : List Lp) (i k : Nat) (best : Int) : St := ⟨[(6, I (k : Nat)), (0, Sl (lpsOf ls)), (1, I (i : Nat)), (5, I best)], h, []⟩
theorem wj_loop (h : Heap) (ls : List Lp) (hl : ls.length ≤ 100000) (hb : ∀ x, x ∈ ls → x.blocks.length ≤ 100000) (i : Nat) (hi : i < ls.length) :
    lpK 91 Tryz.f91 64 0 h (wjS h ls i 0 (-1)) = some (.exit 0, wjS h ls i ls.length (wiN (coreOf ls) i ls.length)) := by
  have q := qt91
  simp [Tryz.f91, quietFn, quietRegs] at q
  have key := loop_fun (P := Tryz.prog) (C := cfg) (sc := runScope Tryz.prog cfg 64 h.length (cfg.live 91) 0) (N := 64) (n0 := h.length) (K := cfg.live 91) (c := loopAt Tryz.f91 0)
    (fun k : Nat => wjS h ls i k (wiN (coreOf ls) i k)) (fun k => k ≤ ls.length) (fun k => ls.length - k) (fun _ => (.exit 0, wjS h ls i ls.length (wiN (coreOf ls) i ls.length))) ?_ 0 (Nat.zero_le _)
  · exact key
  intro k j1
  have j2 := wiN_low (coreOf ls) i k (by simpa using j1)
  rw [coreOf_length] at j2
  obtain ⟨y, hy⟩ : ∃ y, ls[i]? = some y := ⟨_, List.getElem?_eq_getElem hi⟩
  have hcy := core_get hy
  rcases Nat.lt_or_ge k ls.length with hlt | hge
  · have hltI : ((k : Nat) : Int) < ((ls.length : Nat) : Int) := by omega
    obtain ⟨x, hx⟩ : ∃ x, ls[k]? = some x := ⟨_, List.getElem?_eq_getElem hlt⟩
    have hcx := core_get hx
    have hxb := hb x (List.mem_of_getElem? hx)
    have hyb := hb y (List.mem_of_getElem? hy)
    have hfit : Fit x.blocks := by show x.blocks.length ≤ _; omega
    refine .inl ⟨k + 1, ?_, hlt, by omega, rfl⟩
    have hst : wiN (coreOf ls) i (k + 1) = wiStep (coreOf ls) i (wiN (coreOf ls) i k) k := rfl
    rw [hst]
    generalize wiN (coreOf ls) i k = best at *
    clear hst
    unfold wiStep
    rw [hcy, hcx]
    simp only
    by_cases hki : k = i
    · rw [if_pos (.inl hki)]
      subst hki
      simp (disch := omega) [round_eq, wjS, encLp, Tryz.f91, lv91, q, hx, hlt, hltI, wrap_i64, -getElem?_pos]
    · have hkI : ¬ ((k : Nat) : Int) = ((i : Nat) : Int) := by omega
      have hkB : (((k : Nat) : Int) == ((i : Nat) : Int)) = false := by rw [beq_eq_false_iff_ne]; omega
      cases hc : x.blocks.contains y.head with
      | true =>
        by_cases hle : x.blocks.length ≤ y.blocks.length
        · rw [if_pos (.inr (.inr hle))]
          have hleI : ((x.blocks.length : Nat) : Int) ≤ ((y.blocks.length : Nat) : Int) := by omega
          simp (disch := omega) [round_eq, wjS, encLp, Tryz.f91, lv91, q, hx, hy, hi, hlt, hltI, hki, hkI, hkB, has _ x.blocks hfit, hc, hle, hleI, wrap_i64, -getElem?_pos, -List.contains_eq_mem]
        · rw [if_neg (fun h' => by
            rcases h' with h' | h' | h'
            · exact hki h'
            · cases h'
            · exact hle h')]
          have hleI : ¬ ((x.blocks.length : Nat) : Int) ≤ ((y.blocks.length : Nat) : Int) := by omega
          by_cases hbn : best < 0
          · rw [if_pos hbn]
            simp (disch := omega) [round_eq, wjS, encLp, Tryz.f91, lv91, q, hx, hy, hi, hlt, hltI, hki, hkI, hkB, has _ x.blocks hfit, hc, hle, hleI, hbn, wrap_i64, -getElem?_pos, -List.contains_eq_mem]
          · rw [if_neg hbn]
            have hb2 : best.toNat < ls.length := j2.resolve_left hbn
            have hb0 : 0 ≤ best := by omega
            obtain ⟨z, hz⟩ : ∃ z, ls[best.toNat]? = some z := ⟨_, List.getElem?_eq_getElem hb2⟩
            rw [core_get hz]
            simp only
            by_cases hlz : x.blocks.length < z.blocks.length
            · rw [if_pos hlz]
              have hlzI : ((x.blocks.length : Nat) : Int) < ((z.blocks.length : Nat) : Int) := by omega
              simp (disch := omega) [round_eq, wjS, encLp, Tryz.f91, lv91, q, hx, hy, hz, hi, hlt, hltI, hki, hkI, hkB, has _ x.blocks hfit, hc, hle, hleI, hbn, hb0, hb2, hlz, hlzI, wrap_i64, -getElem?_pos, -List.contains_eq_mem]
            · rw [if_neg hlz]
              have hlzI : ¬ ((x.blocks.length : Nat) : Int) < ((z.blocks.length : Nat) : Int) := by omega
              simp (disch := omega) [round_eq, wjS, encLp, Tryz.f91, lv91, q, hx, hy, hz, hi, hlt, hltI, hki, hkI, hkB, has _ x.blocks hfit, hc, hle, hleI, hbn, hb0, hb2, hlz, hlzI, wrap_i64, -getElem?_pos, -List.contains_eq_mem]
      | false =>
        rw [if_pos (.inr (.inl rfl))]
        simp (disch := omega) [round_eq, wjS, encLp, Tryz.f91, lv91, q, hx, hy, hi, hlt, hltI, hki, hkI, hkB, has _ x.blocks hfit, hc, wrap_i64, -getElem?_pos, -List.contains_eq_mem]
  · have : k = ls.length := by omega
    subst this
    refine .inr ⟨?_, nofun⟩
    simp (disch := omega) [round_eq, wjS, encLp, Tryz.f91, lv91, q, -getElem?_pos]

theorem within10 (h : Heap) (ls : List Lp) (hl : ls.length ≤ 100000) (hb : ∀ x, x ∈ ls → x.blocks.length ≤ 100000) (i : Nat) (hi : i < ls.length) :
    CX 91 [Sl (lpsOf ls), I (i : Nat)] h = some (I (wiN (coreOf ls) i ls.length), h, []) := by
  have e := wj_loop h ls hl hb i hi
  refine CI_of Tryz.func91 rfl 0 ?_
  have hk : cfg.keep 91 = 0 := rfl
  simp [wjS, lpK, lv91, Tryz.f91] at e
  simp (disch := omega) [Tryz.f91, lv91, hk, e, -getElem?_pos]

/-! The loops. -/
def oaS (h : Heap) (f : Fn) (rows : List (List Bool)) (i : Nat) (ls : List Lp) : St :=
  ⟨[(1, .one (.ptr h.length 1 0 0)), (5, I (i : Nat)), (4, Sl (tabOf rows)), (3, .one (.sl (h.length + 1) 4 ls.length 0 ls.length)), (9, .junk), (8, .junk)], h ++ [some (.row 5 [encFn f]), some (.row 4 (lpsOf ls)), none], []⟩
def obS (h : Heap) (f : Fn) (rows : List (List Bool)) (i : Nat) (ls : List Lp) (k : Nat) (out : List Lp) : St :=
  ⟨[(1, .one (.ptr h.length 1 0 0)), (5, I (i : Nat)), (4, Sl (tabOf rows)), (3, .one (.sl (h.length + 1) 4 ls.length 0 ls.length)), (9, I (k : Nat)), (8, .one (.sl (h.length + 2) 4 out.length 0 out.length))], h ++ [some (.row 5 [encFn f]), some (.row 4 (lpsOf ls)), some (.row 4 (lpsOf out))], []⟩
theorem oa_loop (h : Heap) (f : Fn) (hf : f.Fine) (rows : List (List Bool)) (G : TabG f.blocks.length (f.blocks.map nextB) rows) :
    lpK 40 Tryz.f40 51 0 h (oaS h f rows 0 []) = some (.exit 0, oaS h f rows f.blocks.length (lpsN (f.blocks.map nextB) f.blocks.length)) := by
  have hb := hf.len
  have hsl : (f.blocks.map nextB).length = f.blocks.length := by simp
  have key := loop_fun (P := Tryz.prog) (C := cfg) (sc := runScope Tryz.prog cfg 51 h.length (cfg.live 40) 0) (N := 51) (n0 := h.length) (K := cfg.live 40) (c := loopAt Tryz.f40 0)
    (fun i : Nat => oaS h f rows i (lpsN (f.blocks.map nextB) i)) (fun i => i ≤ f.blocks.length) (fun i => f.blocks.length - i) (fun _ => (.exit 0, oaS h f rows f.blocks.length (lpsN (f.blocks.map nextB) f.blocks.length))) ?_ 0 (Nat.zero_le _)
  · exact key
  intro i hi
  have hll := (lpsN_ok hf.edges (by omega) i (by omega)).len
  rcases Nat.lt_or_ge i f.blocks.length with hlt | hge
  · have hltI : ((i : Nat) : Int) < ((f.blocks.length : Nat) : Int) := by omega
    have e1 := one10 (h ++ [some (.row 5 [encFn f]), some (.row 4 (lpsOf (lpsN (f.blocks.map nextB) i))), none]) f hf rows G i hlt
    refine .inl ⟨i + 1, ?_, hlt, by omega, rfl⟩
    rw [lpsN, hsl]
    unfold lpF
    rw [hsl]
    generalize lpsN (f.blocks.map nextB) i = ls at *
    generalize blkR (f.blocks.map nextB) i f.blocks.length = bl at *
    generalize bkN (f.blocks.map nextB) i f.blocks.length = fr at *
    simp [encFn] at e1
    by_cases h0 : fr = []
    · rw [if_pos h0] at e1 ⊢
      simp (disch := (first | omega | simp (disch := omega) [])) [round_eq, oaS, encFn, Tryz.f40, lv40, hlt, hltI, e1, wrap_i64, -getElem?_pos]
    · rw [if_neg h0] at e1 ⊢
      have hsn : lpsOf ls ++ [[Leaf.int .i64 (i : Int), .isl (intsOf bl), .isl (intsOf fr), .int .i64 (-1)]] = lpsOf (ls ++ [⟨(i : Int), bl, fr, -1⟩]) := lpsOf_snoc ls ⟨(i : Int), bl, fr, -1⟩
      simp (disch := (first | omega | simp (disch := omega) [])) [round_eq, oaS, encFn, Tryz.f40, lv40, hlt, hltI, e1, room_of, hsn, wrap_i64, -getElem?_pos]
  · have : i = f.blocks.length := by omega
    subst this
    refine .inr ⟨?_, nofun⟩
    generalize lpsN (f.blocks.map nextB) f.blocks.length = ls at *
    simp (disch := (first | omega | simp (disch := omega) [])) [round_eq, oaS, encFn, Tryz.f40, lv40, -getElem?_pos]
theorem ob_loop (h : Heap) (f : Fn) (rows : List (List Bool)) (i : Nat) {ss : List (List Int)} {n : Nat} (hn : n ≤ 1000) (ls : List Lp) (hl : LsOK ss n ls) :
    lpK 40 Tryz.f40 51 1 h (obS h f rows i ls 0 []) = some (.exit 2, obS h f rows i ls ls.length (finF ls)) := by
  have hlen := hl.len
  have key := loop_fun (P := Tryz.prog) (C := cfg) (sc := runScope Tryz.prog cfg 51 h.length (cfg.live 40) 0) (N := 51) (n0 := h.length) (K := cfg.live 40) (c := loopAt Tryz.f40 1)
    (fun k : Nat => obS h f rows i ls k ((finF ls).take k)) (fun k => k ≤ ls.length) (fun k => ls.length - k) (fun _ => (.exit 2, obS h f rows i ls ls.length (finF ls))) ?_ 0 (Nat.zero_le _)
  · exact key
  intro k hk
  have htl : ((finF ls).take k).length = k := by simp; omega
  rcases Nat.lt_or_ge k ls.length with hlt | hge
  · have hltI : ((k : Nat) : Int) < ((ls.length : Nat) : Int) := by omega
    obtain ⟨x, hx⟩ : ∃ x, ls[k]? = some x := ⟨_, List.getElem?_eq_getElem hlt⟩
    have e := within10 [] ls (by omega) (fun y hy => by have := (hl.each y hy).2.1; omega) k hlt
    have hnx : (finF ls).take (k + 1) = (finF ls).take k ++ [⟨x.head, x.blocks, x.backs, wiN (coreOf ls) k ls.length⟩] := by
      rw [List.take_add_one, finF_get, hx]; rfl
    refine .inl ⟨k + 1, ?_, hlt, by omega, rfl⟩
    rw [hnx]
    generalize (finF ls).take k = out at *
    generalize wiN (coreOf ls) k ls.length = r at *
    have hsn : lpsOf out ++ [[Leaf.int .i64 x.head, .isl (intsOf x.blocks), .isl (intsOf x.backs), .int .i64 r]] = lpsOf (out ++ [⟨x.head, x.blocks, x.backs, r⟩]) := lpsOf_snoc out ⟨x.head, x.blocks, x.backs, r⟩
    simp (disch := (first | omega | simp (disch := omega) [])) [round_eq, obS, encLp, encFn, Tryz.f40, lv40, hlt, hltI, hx, htl, e, room_of, hsn, wrap_i64, -getElem?_pos]
  · have : k = ls.length := by omega
    subst this
    refine .inr ⟨?_, nofun⟩
    have : (finF ls).take ls.length = finF ls := by rw [← finF_length ls, List.take_length]
    rw [this]
    generalize finF ls = out at *
    simp (disch := (first | omega | simp (disch := omega) [])) [round_eq, obS, encFn, Tryz.f40, lv40, -getElem?_pos]
theorem ofs10 (h : Heap) (f : Fn) (hf : f.Fine) (hn : 0 < f.blocks.length) :
    CX 40 [.agg (encFn f)] h = some (Sl (lpsOf (loopsF (f.blocks.map nextB))), h, []) := by
  have hb := hf.len
  have hsl : (f.blocks.map nextB).length = f.blocks.length := by simp
  obtain ⟨rows, G, e1⟩ := table (h ++ [some (.row 5 [encFn f])]) f hf hn
  have e2 := oa_loop h f hf rows G
  have hok := lpsN_ok hf.edges (by omega) f.blocks.length (by omega)
  have e3 := ob_loop h f rows f.blocks.length hb _ hok
  have hfl := finF_length (lpsN (f.blocks.map nextB) f.blocks.length)
  unfold loopsF
  rw [hsl]
  refine CI_of Tryz.func40 rfl 0 ?_
  have hk : cfg.keep 40 = 0 := rfl
  generalize finF (lpsN (f.blocks.map nextB) f.blocks.length) = ls2 at *
  generalize lpsN (f.blocks.map nextB) f.blocks.length = ls1 at *
  simp [encFn] at e1
  simp [oaS, encFn, lpK, lv40, Tryz.f40] at e2
  simp [obS, encFn, lpK, lv40, Tryz.f40, hfl] at e3
  simp (disch := (first | omega | simp (disch := omega) [])) [Tryz.f40, lv40, hk, encFn, e1, e2, e3, hfl, -getElem?_pos]

/-! In how many loops a block is. -/
def dpS (k : Int) (n : Nat) (x : Lp) : Nat := if x.blocks.contains k = true then n + 1 else n
theorem dpS_le (k : Int) (n : Nat) (x : Lp) : dpS k n x ≤ n + 1 := by unfold dpS; split <;> omega
theorem dp_a (h : Heap) (ls : List Lp) (hl : ls.length ≤ 100000) (hb : ∀ x, x ∈ ls → x.blocks.length ≤ 100000) (k : Int) :
    CX 42 [Sl (lpsOf ls), I k] h = some (I (ls.foldl (dpS k) 0 : Nat), h, []) := by
  have key := loop_list (P := Tryz.prog) (C := cfg) (sc := runScope Tryz.prog cfg 22 h.length (cfg.live 42) 0) (N := 22) (n0 := h.length) (K := cfg.live 42) (c := loopAt Tryz.f42 0) ls (dpS k)
    (fun j n => ⟨[(10, I (j : Nat)), (9, I (ls.length : Nat)), (8, Sl (lpsOf ls)), (1, I k), (5, I (n : Nat))], h, []⟩) (fun n => (.exit 0, ⟨[(10, I (ls.length : Nat)), (9, I (ls.length : Nat)), (8, Sl (lpsOf ls)), (1, I k), (5, I (n : Nat))], h, []⟩)) (fun j n => n ≤ j) ?_ ?_ 0 (Nat.le_refl _)
  · refine CI_of Tryz.func42 rfl 0 ?_
    have hk : cfg.keep 42 = 0 := rfl
    generalize ls.foldl (dpS k) 0 = n at *
    simp [lv42, Tryz.f42] at key
    simp (disch := omega) [Tryz.f42, lv42, hk, key, -getElem?_pos]
  · intro j n x hx hn
    have hlt := (List.getElem?_eq_some_iff.1 hx).1
    have hltI : ((j : Nat) : Int) < ((ls.length : Nat) : Int) := by omega
    have hfit : Fit x.blocks := by have := hb x (List.mem_of_getElem? hx); show x.blocks.length ≤ _; omega
    refine ⟨?_, by have := dpS_le k n x; omega⟩
    unfold dpS
    cases hc : x.blocks.contains k <;> simp (disch := omega) [round_eq, encLp, Tryz.f42, lv42, hx, hlt, hltI, contains _ x.blocks hfit, hc, wrap_i64, -getElem?_pos, -List.contains_eq_mem]
  · intro n hn
    refine ⟨?_, nofun⟩
    simp (disch := omega) [round_eq, Tryz.f42, lv42, -getElem?_pos]
theorem dp_b (h : Heap) (ls : List Lp) (hl : ls.length ≤ 100000) (hb : ∀ x, x ∈ ls → x.blocks.length ≤ 100000) (k : Int) :
    CX 43 [Sl (lpsOf ls), I k] h = some (I (ls.foldl (dpS k) 0 : Nat), h, []) := by
  have key := loop_list (P := Tryz.prog) (C := cfg) (sc := runScope Tryz.prog cfg 23 h.length (cfg.live 43) 0) (N := 23) (n0 := h.length) (K := cfg.live 43) (c := loopAt Tryz.f43 0) ls (dpS k)
    (fun j n => ⟨[(6, I (j : Nat)), (0, Sl (lpsOf ls)), (1, I k), (5, I (n : Nat))], h, []⟩) (fun n => (.exit 0, ⟨[(6, I (ls.length : Nat)), (0, Sl (lpsOf ls)), (1, I k), (5, I (n : Nat))], h, []⟩)) (fun j n => n ≤ j) ?_ ?_ 0 (Nat.le_refl _)
  · refine CI_of Tryz.func43 rfl 0 ?_
    have hk : cfg.keep 43 = 0 := rfl
    generalize ls.foldl (dpS k) 0 = n at *
    simp [lv43, Tryz.f43] at key
    simp (disch := omega) [Tryz.f43, lv43, hk, key, -getElem?_pos]
  · intro j n x hx hn
    have hlt := (List.getElem?_eq_some_iff.1 hx).1
    have hltI : ((j : Nat) : Int) < ((ls.length : Nat) : Int) := by omega
    have hfit : Fit x.blocks := by have := hb x (List.mem_of_getElem? hx); show x.blocks.length ≤ _; omega
    refine ⟨?_, by have := dpS_le k n x; omega⟩
    unfold dpS
    cases hc : x.blocks.contains k <;> simp (disch := omega) [round_eq, encLp, Tryz.f43, lv43, hx, hlt, hltI, has _ x.blocks hfit, hc, wrap_i64, -getElem?_pos, -List.contains_eq_mem]
  · intro n hn
    refine ⟨?_, nofun⟩
    simp (disch := omega) [round_eq, Tryz.f43, lv43, -getElem?_pos]
end Go.Proofs.YtdkknhpdjcdmfaaGreat.Abs

/- From where a loop is entered: as both tell it. -/
set_option linter.unusedSimpArgs false
set_option linter.unusedVariables false
set_option linter.unusedSectionVars false
namespace Go.Proofs.YtdkknhpdjcdmfaaGreat.Abs
open Go Go.RowKit Go.Proofs

def prN (ss : List (List Int)) (hd : Nat) : Nat → List Int
  | 0 => []
  | k + 1 => if (hd : Int) ∈ ss.getD k [] then prN ss hd k ++ [(k : Int)] else prN ss hd k
theorem prN_len (ss : List (List Int)) (hd : Nat) : ∀ i, (prN ss hd i).length ≤ i
  | 0 => by simp [prN]
  | i + 1 => by
    have := prN_len ss hd i
    rw [prN]
    split <;> simp <;> omega
theorem prN_mem {ss : List (List Int)} {hd : Nat} {e : Int} : ∀ i, e ∈ prN ss hd i → ∃ k : Nat, e = (k : Int) ∧ k < i
  | 0, h => by simp [prN] at h
  | i + 1, h => by
    rw [prN] at h
    split at h
    · rcases List.mem_append.1 h with h | h
      · obtain ⟨k, h1, h2⟩ := prN_mem i h
        exact ⟨k, h1, by omega⟩
      · exact ⟨i, List.mem_singleton.1 h, by omega⟩
    · obtain ⟨k, h1, h2⟩ := prN_mem i h
      exact ⟨k, h1, by omega⟩
theorem foldP_row {k v : Nat} : ∀ (xs : List Int) (rows : List (List Int)), xs.Nodup → (∀ b, b ∈ xs → 0 ≤ b) → v < rows.length → (xs.foldl (addP k) rows).getD v [] = if (v : Int) ∈ xs then rows.getD v [] ++ [(k : Int)] else rows.getD v []
  | [], rows, _, _, _ => by simp
  | b :: xs, rows, hn, h0, hv => by
    obtain ⟨n1, n2⟩ := List.nodup_cons.1 hn
    have hb := h0 b (by simp)
    rw [List.foldl_cons, foldP_row xs _ n2 (fun x hx => h0 x (by simp [hx])) (by rw [addP_len]; exact hv)]
    by_cases e : b = (v : Int)
    · subst e
      rw [if_neg n1, if_pos (by simp)]
      unfold addP
      rw [Int.toNat_natCast]
      simp only [List.getD]
      rw [List.getElem?_set, if_pos rfl, if_pos hv]
      rfl
    · have hg : (addP k rows b).getD v [] = rows.getD v [] := by
        unfold addP
        simp only [List.getD]
        rw [List.getElem?_set, if_neg (by omega)]
      rw [hg]
      have : ((v : Int) ∈ b :: xs) ↔ (v : Int) ∈ xs := by
        rw [List.mem_cons]
        exact ⟨fun h => h.resolve_left fun e' => e e'.symm, .inr⟩
      simp only [this]
theorem preds_row_is {ss : List (List Int)} (hs : Edges ss) (hnd : ∀ l, l ∈ ss → l.Nodup) {hd : Nat} (hh : hd < ss.length) : (predsF ss).getD hd [] = prN ss hd ss.length := by
  have key : ∀ (ls : List (List Int)) (k : Nat) (rows : List (List Int)), ss.drop k = ls → k ≤ ss.length → rows.length = ss.length → rows.getD hd [] = prN ss hd k → (predsG k ls rows).getD hd [] = prN ss hd ss.length := by
    intro ls
    induction ls with
    | nil =>
      intro k rows hd' hk _ hr
      have := List.drop_eq_nil_iff.1 hd'
      obtain rfl : k = ss.length := by omega
      exact hr
    | cons l ls ih =>
      intro k rows hd' hk hl hr
      have hlt : k < ss.length := by
        have := congrArg List.length hd'
        simp at this
        omega
      rw [List.drop_eq_getElem_cons hlt] at hd'
      injection hd' with h1 h2
      have hm : l ∈ ss := h1 ▸ List.getElem_mem hlt
      rw [predsG]
      refine ih (k + 1) _ h2 hlt (by rw [foldP_len]; exact hl) ?_
      rw [foldP_row l rows (hnd l hm) (fun b hb => ((hs.each l hm).2 b hb).1) (by omega), hr, prN]
      have : ss.getD k [] = l := by rw [List.getD, List.getElem?_eq_getElem hlt, h1]; rfl
      rw [this]
  refine key ss 0 _ rfl (Nat.zero_le _) (by simp) ?_
  rw [List.getD, List.getElem?_replicate]
  split <;> rfl

def outF (bl : List Int) (l : List Int) : List Int := l.filter fun p => !bl.contains p
def entF (ss : List (List Int)) (x : Lp) : Int :=
  match outF x.blocks (prN ss x.head.toNat ss.length) with
  | [p] => if (ss.getD p.toNat []).length = 1 then p else -1
  | _ => -1

def enS (h : Heap) (f : Fn) (x : Lp) (ps : List Int) (j : Nat) (e r : Int) : St :=
  ⟨[(2, .one (.ptr h.length 1 0 0)), (3, .one (.ptr (h.length + 1) 1 0 0)), (15, I (j : Nat)), (14, I (ps.length : Nat)), (13, Sl (intsOf ps)), (5, I e), (4, I r)], h ++ [some (.row 5 [encFn f]), some (.row 4 [encLp x])], []⟩
theorem outF_snoc (bl l : List Int) (p : Int) : outF bl (l ++ [p]) = if bl.contains p = true then outF bl l else outF bl l ++ [p] := by
  unfold outF
  rw [List.filter_append]
  cases hc : bl.contains p with
  | true => rw [List.filter_cons_of_neg (by rw [hc]; simp), List.filter_nil, if_pos rfl, List.append_nil]
  | false => rw [List.filter_cons_of_pos (by rw [hc]; rfl), List.filter_nil, if_neg (by simp)]
theorem take_snoc {l : List Int} {j : Nat} {p : Int} (h : l[j]? = some p) : l.take (j + 1) = l.take j ++ [p] := by
  rw [List.take_add_one, h]; rfl
theorem outF_two {bl l : List Int} {j : Nat} {a b : Int} {r : List Int} (h : outF bl (l.take j) = a :: b :: r) : ∃ r', outF bl l = a :: b :: r' := by
  have : l = l.take j ++ l.drop j := (List.take_append_drop j l).symm
  rw [this]
  unfold outF at h ⊢
  rw [List.filter_append, h]
  exact ⟨_, rfl⟩
theorem en_loop (h : Heap) (f : Fn) (x : Lp) (hb : x.blocks.length ≤ 100000) (ps : List Int) (hps : ps.length ≤ 1000) (hp0 : ∀ p, p ∈ ps → 0 ≤ p) :
    ∃ r, lpK 46 Tryz.f46 41 0 h (enS h f x ps 0 (-1) 0) = some r ∧ ((∃ j e, r = (.ret, enS h f x ps j e (-1)) ∧ ∃ a b t, outF x.blocks ps = a :: b :: t) ∨
      (∃ e, r = (.exit 0, enS h f x ps ps.length e 0) ∧ ((e = -1 ∧ outF x.blocks ps = []) ∨ (0 ≤ e ∧ outF x.blocks ps = [e])))) := by
  have q := qt46
  simp [Tryz.f46, quietFn, quietRegs] at q
  have hfit : Fit x.blocks := by show x.blocks.length ≤ _; omega
  refine loop_rel (P := Tryz.prog) (C := cfg) (sc := runScope Tryz.prog cfg 41 h.length (cfg.live 46) 0) (N := 41) (n0 := h.length) (K := cfg.live 46) (c := loopAt Tryz.f46 0)
    (fun s : Nat × Int => enS h f x ps s.1 s.2 0) (fun s => s.1 ≤ ps.length ∧ ((s.2 = -1 ∧ outF x.blocks (ps.take s.1) = []) ∨ (0 ≤ s.2 ∧ outF x.blocks (ps.take s.1) = [s.2]))) (fun s => ps.length - s.1)
    (fun _ r => (∃ j e, r = (.ret, enS h f x ps j e (-1)) ∧ ∃ a b t, outF x.blocks ps = a :: b :: t) ∨ (∃ e, r = (.exit 0, enS h f x ps ps.length e 0) ∧ ((e = -1 ∧ outF x.blocks ps = []) ∨ (0 ≤ e ∧ outF x.blocks ps = [e])))) ?_ (0, -1) ⟨Nat.zero_le _, .inl ⟨rfl, by simp [outF]⟩⟩
  rintro ⟨j, e⟩ ⟨j1, j2⟩
  simp only at j1 j2 ⊢
  rcases Nat.lt_or_ge j ps.length with hlt | hge
  · have hltI : ((j : Nat) : Int) < ((ps.length : Nat) : Int) := by omega
    obtain ⟨p, hp⟩ : ∃ p, ps[j]? = some p := ⟨_, List.getElem?_eq_getElem hlt⟩
    have hpz := hp0 p (List.mem_of_getElem? hp)
    have hsn := outF_snoc x.blocks (ps.take j) p
    rw [← take_snoc hp] at hsn
    cases hc : x.blocks.contains p with
    | true =>
      rw [hc, if_pos rfl] at hsn
      refine .inl ⟨(j + 1, e), ?_, ⟨hlt, by simp only; rw [hsn]; exact j2⟩, by simp only; omega, fun r h => h⟩
      simp (disch := omega) [round_eq, enS, encLp, encFn, Tryz.f46, lv46, q, hp, hlt, hltI, contains _ x.blocks hfit, hc, wrap_i64, -getElem?_pos, -List.contains_eq_mem]
    | false =>
      rw [hc, if_neg (by simp)] at hsn
      rcases j2 with ⟨h1, h2⟩ | ⟨h1, h2⟩
      · subst h1
        rw [h2] at hsn
        refine .inl ⟨(j + 1, p), ?_, ⟨hlt, .inr ⟨hpz, hsn⟩⟩, by simp only; omega, fun r h => h⟩
        simp (disch := omega) [round_eq, enS, encLp, encFn, Tryz.f46, lv46, q, hp, hlt, hltI, contains _ x.blocks hfit, hc, wrap_i64, -getElem?_pos, -List.contains_eq_mem]
      · rw [h2] at hsn
        refine .inr ⟨(.ret, enS h f x ps j e (-1)), ?_, nofun, .inl ⟨j, e, rfl, ?_⟩⟩
        · simp (disch := omega) [round_eq, enS, encLp, encFn, Tryz.f46, lv46, q, hp, hlt, hltI, contains _ x.blocks hfit, hc, h1, wrap_i64, -getElem?_pos, -List.contains_eq_mem]
        · obtain ⟨t, ht⟩ := outF_two (j := j + 1) (l := ps) hsn
          exact ⟨_, _, t, ht⟩
  · have : j = ps.length := by omega
    subst this
    rw [List.take_length] at j2
    refine .inr ⟨(.exit 0, enS h f x ps ps.length e 0), ?_, nofun, .inr ⟨e, rfl, j2⟩⟩
    simp (disch := omega) [round_eq, enS, encLp, encFn, Tryz.f46, lv46, q, -getElem?_pos]

theorem entry (h : Heap) (f : Fn) (hf : f.Fine) (x : Lp) (hb : x.blocks.length ≤ 100000) (h0 : 0 ≤ x.head) (hh : x.head < f.blocks.length) :
    CX 46 [.agg (encFn f), .agg (encLp x)] h = some (I (entF (f.blocks.map nextB) x), h, []) := by
  have hk : cfg.keep 46 = 0 := rfl
  have q := qt46
  simp [Tryz.f46, quietFn, quietRegs] at q
  have hsl : (f.blocks.map nextB).length = f.blocks.length := by simp
  have hbl := hf.len
  have hnd : ∀ l, l ∈ f.blocks.map nextB → l.Nodup := fun l hl => by
    obtain ⟨b, _, rfl⟩ := List.mem_map.1 hl
    exact nextB_nodup b
  have e1 := fun h => preds h f hf
  have e2 := fun h => succs h f hf.ok hf.ended (by omega)
  have hpr := preds_row_is hf.edges hnd (hd := x.head.toNat) (by omega)
  obtain ⟨ps, hps⟩ : ∃ ps, (predsF (f.blocks.map nextB))[x.head.toNat]? = some ps := ⟨_, List.getElem?_eq_getElem (by rw [predsF_len]; omega)⟩
  have hpd : (predsF (f.blocks.map nextB)).getD x.head.toNat [] = ps := by rw [List.getD, hps]; rfl
  rw [hpd] at hpr
  have hpl := prN_len (f.blocks.map nextB) x.head.toNat (f.blocks.map nextB).length
  rw [← hpr] at hpl
  have hpm : ∀ p, p ∈ ps → ∃ k : Nat, p = (k : Int) ∧ k < f.blocks.length := fun p hp => by
    rw [hpr] at hp
    obtain ⟨k, h1, h2⟩ := prN_mem _ hp
    exact ⟨k, h1, by omega⟩
  obtain ⟨r, e, hr⟩ := en_loop h f x hb ps (by omega) (fun p hp => by obtain ⟨k, h1, _⟩ := hpm p hp; omega)
  have hpn : x.head.toNat < (predsF (f.blocks.map nextB)).length := by rw [predsF_len]; omega
  have hpn2 : x.head.toNat < f.blocks.length := by omega
  unfold entF
  rw [← hpr]
  simp [encFn] at e1 e2
  rcases hr with ⟨j, e', rfl, a, b, t, ho⟩ | ⟨e', rfl, ⟨rfl, ho⟩ | ⟨he, ho⟩⟩
  · rw [ho]
    refine CI_of Tryz.func46 rfl 0 ?_
    simp [enS, encFn, encLp, lpK, lv46, Tryz.f46] at e
    simp (disch := omega) [Tryz.f46, lv46, hk, q, encFn, encLp, e1, h0, hpn, hpn2, hps, e, -getElem?_pos]
  · rw [ho]
    refine CI_of Tryz.func46 rfl 0 ?_
    simp [enS, encFn, encLp, lpK, lv46, Tryz.f46] at e
    simp (disch := omega) [Tryz.f46, lv46, hk, q, encFn, encLp, e1, h0, hpn, hpn2, hps, e, -getElem?_pos]
  · rw [ho]
    have hem : e' ∈ ps := by
      have : e' ∈ outF x.blocks ps := by rw [ho]; simp
      exact (List.mem_filter.1 this).1
    obtain ⟨k, rfl, hkl⟩ := hpm e' hem
    obtain ⟨l, hl⟩ : ∃ l, f.blocks[k]? = some l := ⟨_, List.getElem?_eq_getElem hkl⟩
    have hgd : (f.blocks.map nextB).getD ((k : Int)).toNat [] = nextB l := by rw [Int.toNat_natCast, List.getD, List.getElem?_map, hl]; rfl
    have hk0 : ¬ ((k : Nat) : Int) < 0 := by omega
    simp only [hgd]
    refine CI_of Tryz.func46 rfl 0 ?_
    simp [enS, encFn, encLp, lpK, lv46, Tryz.f46] at e
    by_cases h1 : (nextB l).length = 1
    · have h1B : ((((nextB l).length : Nat) : Int) != 1) = false := by simp [h1]
      rw [if_pos h1]
      simp (disch := omega) [Tryz.f46, lv46, hk, q, encFn, encLp, e1, e2, h0, hpn, hpn2, hps, e, hk0, hkl, hl, h1, h1B, -getElem?_pos]
    · have h1B : ((((nextB l).length : Nat) : Int) != 1) = true := by simp; omega
      rw [if_neg h1]
      simp (disch := omega) [Tryz.f46, lv46, hk, q, encFn, encLp, e1, e2, h0, hpn, hpn2, hps, e, hk0, hkl, hl, h1, h1B, -getElem?_pos]
end Go.Proofs.YtdkknhpdjcdmfaaGreat.Abs

/- From where a loop is entered, as the document tells it. -/
set_option linter.unusedSimpArgs false
set_option linter.unusedVariables false
set_option linter.unusedSectionVars false
namespace Go.Proofs.YtdkknhpdjcdmfaaGreat.Abs
open Go Go.RowKit Go.Proofs

def etS (h : Heap) (f : Fn) (x : Lp) (k : Nat) (fr : List Int) : St :=
  ⟨[(6, I (k : Nat)), (2, .one (.ptr h.length 1 0 0)), (3, .one (.ptr (h.length + 1) 1 0 0)), (5, .one (.sl (h.length + 2) 1 fr.length 0 fr.length))], h ++ [some (.row 5 [encFn f]), some (.row 4 [encLp x]), some (.row 1 (intsOf fr))], []⟩
theorem et_loop (h : Heap) (f : Fn) (hf : f.Fine) (x : Lp) (hb : x.blocks.length ≤ 100000) (hd : Nat) (hh : x.head = (hd : Int)) :
    lpK 47 Tryz.f47 46 0 h (etS h f x 0 []) = some (.exit 0, etS h f x f.blocks.length (outF x.blocks (prN (f.blocks.map nextB) hd f.blocks.length))) := by
  have q := qt47
  simp [Tryz.f47, quietFn, quietRegs] at q
  have hfit : Fit x.blocks := by show x.blocks.length ≤ _; omega
  have hbl := hf.len
  have key := loop_fun (P := Tryz.prog) (C := cfg) (sc := runScope Tryz.prog cfg 46 h.length (cfg.live 47) 0) (N := 46) (n0 := h.length) (K := cfg.live 47) (c := loopAt Tryz.f47 0)
    (fun k : Nat => etS h f x k (outF x.blocks (prN (f.blocks.map nextB) hd k))) (fun k => k ≤ f.blocks.length) (fun k => f.blocks.length - k) (fun _ => (.exit 0, etS h f x f.blocks.length (outF x.blocks (prN (f.blocks.map nextB) hd f.blocks.length)))) ?_ 0 (Nat.zero_le _)
  · exact key
  intro k hk
  have hlen : (outF x.blocks (prN (f.blocks.map nextB) hd k)).length ≤ 1000 := by
    have h1 := prN_len (f.blocks.map nextB) hd k
    have h2 := List.length_filter_le (fun p => !x.blocks.contains p) (prN (f.blocks.map nextB) hd k)
    unfold outF
    omega
  rcases Nat.lt_or_ge k f.blocks.length with hlt | hge
  · have hltI : ((k : Nat) : Int) < ((f.blocks.length : Nat) : Int) := by omega
    obtain ⟨l, hl⟩ : ∃ l, f.blocks[k]? = some l := ⟨_, List.getElem?_eq_getElem hlt⟩
    have hgd : (f.blocks.map nextB).getD k [] = nextB l := by rw [List.getD, List.getElem?_map, hl]; rfl
    have hnl := (hf.edges.each (nextB l) (List.mem_map.2 ⟨l, List.mem_of_getElem? hl, rfl⟩)).1
    have hfit2 : Fit (nextB l) := by show (nextB l).length ≤ _; omega
    have e1 := fun h => next h f hf.ok hf.ended k l hl
    refine .inl ⟨k + 1, ?_, hlt, by omega, rfl⟩
    have hnx : outF x.blocks (prN (f.blocks.map nextB) hd (k + 1)) = if x.blocks.contains (k : Int) = false ∧ (nextB l).contains (hd : Int) = true then outF x.blocks (prN (f.blocks.map nextB) hd k) ++ [(k : Int)] else outF x.blocks (prN (f.blocks.map nextB) hd k) := by
      rw [prN, hgd]
      by_cases h1 : (hd : Int) ∈ nextB l
      · have h1' : (nextB l).contains (hd : Int) = true := by simpa using h1
        rw [if_pos h1, outF_snoc, h1']
        cases hc : x.blocks.contains (k : Int) <;> simp
      · have h1' : (nextB l).contains (hd : Int) = false := by simpa using h1
        rw [if_neg h1, h1', if_neg (by simp)]
    rw [hnx]
    clear hnx
    generalize outF x.blocks (prN (f.blocks.map nextB) hd k) = fr at *
    simp [encFn] at e1
    cases hc : x.blocks.contains (k : Int) with
    | true =>
      rw [if_neg (by simp)]
      simp (disch := omega) [round_eq, etS, encLp, encFn, Tryz.f47, lv47, q, hlt, hltI, has _ x.blocks hfit, hc, wrap_i64, -getElem?_pos, -List.contains_eq_mem]
    | false =>
      cases hc2 : (nextB l).contains (hd : Int) with
      | false =>
        rw [if_neg (by simp)]
        simp (disch := omega) [round_eq, etS, encLp, encFn, Tryz.f47, lv47, q, hlt, hltI, hh, e1, has _ x.blocks hfit, has _ (nextB l) hfit2, hc, hc2, wrap_i64, -getElem?_pos, -List.contains_eq_mem]
      | true =>
        rw [if_pos ⟨rfl, rfl⟩]
        simp (disch := omega) [round_eq, etS, encLp, encFn, Tryz.f47, lv47, q, hlt, hltI, hh, e1, has _ x.blocks hfit, has _ (nextB l) hfit2, hc, hc2, room_of, intsOf_snoc, wrap_i64, -getElem?_pos, -List.contains_eq_mem]
  · have : k = f.blocks.length := by omega
    subst this
    refine .inr ⟨?_, nofun⟩
    generalize outF x.blocks (prN (f.blocks.map nextB) hd f.blocks.length) = fr at *
    simp (disch := omega) [round_eq, etS, encLp, encFn, Tryz.f47, lv47, q, -getElem?_pos]

theorem entry10 (h : Heap) (f : Fn) (hf : f.Fine) (x : Lp) (hb : x.blocks.length ≤ 100000) (h0 : 0 ≤ x.head) (hh : x.head < f.blocks.length) :
    CX 47 [.agg (encFn f), .agg (encLp x)] h = some (I (entF (f.blocks.map nextB) x), h, []) := by
  have hk : cfg.keep 47 = 0 := rfl
  have q := qt47
  simp [Tryz.f47, quietFn, quietRegs] at q
  have hsl : (f.blocks.map nextB).length = f.blocks.length := by simp
  obtain ⟨hd, hhd⟩ : ∃ hd : Nat, x.head = (hd : Int) := ⟨x.head.toNat, by omega⟩
  have e := et_loop h f hf x hb hd hhd
  have hbl := hf.len
  unfold entF
  rw [hhd, Int.toNat_natCast, hsl]
  have hpm : ∀ p, p ∈ outF x.blocks (prN (f.blocks.map nextB) hd f.blocks.length) → ∃ k : Nat, p = (k : Int) ∧ k < f.blocks.length := fun p hp => prN_mem _ (List.mem_filter.1 hp).1
  generalize outF x.blocks (prN (f.blocks.map nextB) hd f.blocks.length) = fr at *
  simp [etS, encFn, encLp, lpK, lv47, Tryz.f47] at e
  match fr, hpm, e with
  | [], _, e =>
    refine CI_of Tryz.func47 rfl 0 ?_
    simp at e
    simp (disch := omega) [Tryz.f47, lv47, hk, q, encFn, encLp, e, -getElem?_pos]
  | a :: b :: t, _, e =>
    have hlB : (((a :: b :: t).length : Nat) : Int) ≠ 1 := by simp; omega
    have hlB2 : ((((a :: b :: t).length : Nat) : Int) != 1) = true := by simpa using hlB
    show CX 47 [.agg (encFn f), .agg (encLp x)] h = some (I (-1), h, [])
    refine CI_of Tryz.func47 rfl 0 ?_
    generalize a :: b :: t = fr at *
    simp (disch := omega) [Tryz.f47, lv47, hk, q, encFn, encLp, e, hlB2, -getElem?_pos]
  | [p], hpm, e =>
    obtain ⟨k, rfl, hkl⟩ := hpm p (by simp)
    obtain ⟨l, hl⟩ : ∃ l, f.blocks[k]? = some l := ⟨_, List.getElem?_eq_getElem hkl⟩
    have hgd : (f.blocks.map nextB).getD ((k : Int)).toNat [] = nextB l := by rw [Int.toNat_natCast, List.getD, List.getElem?_map, hl]; rfl
    have e1 := fun h => next h f hf.ok hf.ended k l hl
    simp only [hgd]
    simp [encFn] at e1
    have hz : intsOf [(k : Int)] = [[Leaf.int .i64 (k : Int)]] := rfl
    simp [hz] at e
    refine CI_of Tryz.func47 rfl 0 ?_
    by_cases h1 : (nextB l).length = 1
    · have h1B : ((((nextB l).length : Nat) : Int) != 1) = false := by simp [h1]
      rw [if_pos h1]
      simp (disch := omega) [Tryz.f47, lv47, hk, q, encFn, encLp, e, e1, h1, h1B, -getElem?_pos]
    · have h1B : ((((nextB l).length : Nat) : Int) != 1) = true := by simp; omega
      rw [if_neg h1]
      simp (disch := omega) [Tryz.f47, lv47, hk, q, encFn, encLp, e, e1, h1, h1B, -getElem?_pos]
end Go.Proofs.YtdkknhpdjcdmfaaGreat.Abs

/- Numbers of a caller's, sorted by how many blocks the loops have that they name. -/
set_option linter.unusedSimpArgs false
set_option linter.unusedVariables false
set_option linter.unusedSectionVars false
namespace Go.Proofs.YtdkknhpdjcdmfaaGreat.Abs
open Go Go.RowKit Go.Proofs

def Zs (n0 : Nat) (v : V) : Prop := ∀ (H : Heap) (L : List (Option Nat)), fzV H n0 L v = some v
theorem zs_st {n0 : Nat} {l : Leaf} (h : stL n0 l = true) : Zs n0 (.one l) := fun H L => by
  show (fzT _ _ _ l).map V.one = _
  rw [stL_fz h]; rfl
@[simp] theorem zs_int (n0 : Nat) (k : IntKind) (n : Int) : Zs n0 (.one (.int k n)) := zs_st rfl
@[simp] theorem zs_junk (n0 : Nat) : Zs n0 .junk := fun _ _ => rfl
theorem zs_sl {n0 id : Nat} (h : id < n0) (s sz off len : Nat) : Zs n0 (.one (.sl id s sz off len)) := zs_st (by simp [h])
theorem zs_fn {n0 id : Nat} (h : id < n0) (g : FuncId) : Zs n0 (.one (.fn g [.ptr id 1 0 0])) := fun H L => by
  have h1 : fzR H n0 L (.ptr id 1 0 0) = some (.ptr id 1 0 0) := by unfold fzR; simp [stays, h]
  show ((mapO (fzR H n0 L) [.ptr id 1 0 0]).map (Leaf.fn g)).map V.one = _
  simp only [mapO, h1]
  rfl
def PlZ (n0 : Nat) (T : Tmps) : List (Nat × Kd) → Prop
  | [] => True
  | e :: K => (e.2 = .p ∧ Zs n0 (tget T e.1)) ∧ PlZ n0 T K
theorem plZ_cons (n0 : Nat) (T : Tmps) (i : Nat) (kd : Kd) (K : List (Nat × Kd)) : PlZ n0 T ((i, kd) :: K) = ((kd = .p ∧ Zs n0 (tget T i)) ∧ PlZ n0 T K) := rfl
theorem plZ_nil (n0 : Nat) (T : Tmps) : PlZ n0 T [] = True := rfl
theorem plZ_kdL {H : Heap} {n0 : Nat} {T : Tmps} : ∀ {K : List (Nat × Kd)}, PlZ n0 T K → kdL H n0 T K = []
  | [], _ => rfl
  | e :: K, h => by rw [kdL, h.1.1, plZ_kdL h.2]; rfl
theorem plZ_kdAll {H : Heap} {n0 : Nat} {L : List (Option Nat)} {T : Tmps} : ∀ {K : List (Nat × Kd)} (p : Nat), PlZ n0 T K → kdAll H n0 L T p K = some (K.map fun e => (e.1, tget T e.1), [])
  | [], p, _ => rfl
  | e :: K, p, h => by
    obtain ⟨⟨h1, h2⟩, h4⟩ := h
    unfold kdAll
    rw [h1]
    simp only [kdNew, h2 H L, List.length_nil, Nat.add_zero, plZ_kdAll p h4]
    simp
theorem tidy_callZ {H : Heap} {n0 : Nat} {T : Tmps} {ws : List Nat} {K : List (Nat × Kd)} (hn : H.length = n0) (hK : PlZ n0 T K) (hw : WsOK H ws) : tidy n0 K ⟨T, H, ws⟩ = ⟨K.map fun e => (e.1, tget T e.1), H, wsOf n0 ws⟩ := by
  subst hn
  have h1 := fzH_call (g := []) (wsOf H.length ws) (fun x hx => (wsOf_mem hx).2) fun x hx => hw x (wsOf_mem hx).1
  rw [List.append_nil] at h1
  unfold tidy tidyO
  simp only [plZ_kdL hK, plZ_kdAll 0 hK, okL, if_true, List.take_length, h1, List.append_nil]

def keyL (ls : List Lp) (v : Int) : Nat := match ls[v.toNat]? with
  | some x => x.blocks.length
  | none => 0
theorem cmpL (h : Heap) (kb : Nat) (ls : List Lp) (hr : rowAt h kb 1 = some (1, [[.isl (lpsOf ls)]])) (hb : ∀ x, x ∈ ls → x.blocks.length ≤ 100000) (a b : Int) (ha0 : 0 ≤ a) (hb0 : 0 ≤ b) (ha : a.toNat < ls.length) (hbl : b.toNat < ls.length) :
    CX 94 [I a, I b, .one (.ptr kb 1 0 0)] h = some (I ((keyL ls a : Int) - (keyL ls b : Int)), h, []) := by
  have q := qt94
  simp [Tryz.f94, quietFn, quietRegs] at q
  obtain ⟨x, hx⟩ : ∃ x, ls[a.toNat]? = some x := ⟨_, List.getElem?_eq_getElem ha⟩
  obtain ⟨y, hy⟩ : ∃ y, ls[b.toNat]? = some y := ⟨_, List.getElem?_eq_getElem hbl⟩
  have hkx : keyL ls a = x.blocks.length := by unfold keyL; rw [hx]
  have hky : keyL ls b = y.blocks.length := by unfold keyL; rw [hy]
  have h1 := hb x (List.mem_of_getElem? hx)
  have h2 := hb y (List.mem_of_getElem? hy)
  rw [hkx, hky]
  refine CI_of Tryz.func94 rfl 0 ?_
  have hk : cfg.keep 94 = 0 := rfl
  simp (disch := omega) [Tryz.f94, hk, q, hr, encLp, hx, hy, ha0, hb0, ha, hbl, wrap_i64, -getElem?_pos]

def insJ (key : Int → Nat) : Nat → List Int → List Int
  | 0, ys => ys
  | j + 1, ys => match ys[j + 1]?, ys[j]? with
    | some a, some b => if key a < key b then insJ key j ((ys.set (j + 1) b).set j a) else ys
    | _, _ => ys
def isG (key : Int → Nat) : Nat → Nat → List Int → List Int
  | 0, _, ys => ys
  | m + 1, i, ys => isG key m (i + 1) (insJ key i ys)
theorem insJ_len (key : Int → Nat) : ∀ (j : Nat) (ys : List Int), (insJ key j ys).length = ys.length
  | 0, _ => rfl
  | j + 1, ys => by
    unfold insJ
    split
    · split
      · rw [insJ_len key j]; simp
      · rfl
    · rfl
theorem insJ_mem {key : Int → Nat} {v : Int} : ∀ (j : Nat) (ys : List Int), v ∈ insJ key j ys → v ∈ ys
  | 0, _, h => h
  | j + 1, ys, h => by
    unfold insJ at h
    split at h
    · rename_i a b ha hb
      split at h
      · have h1 := insJ_mem j _ h
        rcases List.mem_or_eq_of_mem_set h1 with h1 | rfl
        · rcases List.mem_or_eq_of_mem_set h1 with h1 | rfl
          · exact h1
          · exact List.mem_of_getElem? hb
        · exact List.mem_of_getElem? ha
      · exact h
    · exact h

def csS (h : Heap) (k n kb : Nat) (ys : List Int) (i : Nat) (j : V) (ws : List Nat) : St :=
  ⟨[(1, I 0), (8, I (i : Nat)), (2, I (n : Nat)), (9, j), (3, .one (.fn 94 [.ptr kb 1 0 0])), (0, .one (.sl k 1 n 0 n))], updH h k 1 (intsOf ys), ws⟩
section
variable (h : Heap) (k kb n : Nat) (hk : k < h.length) (hkb : kb < h.length) (hne : kb ≠ k) (hn : n ≤ 1000) (ls : List Lp) (hr : rowAt h kb 1 = some (1, [[.isl (lpsOf ls)]])) (hb : ∀ x, x ∈ ls → x.blocks.length ≤ 100000)
include hk hkb hne hn hr hb
theorem cs_in (i : Nat) (hi : i < n) (ys : List Int) (ws : List Nat) (hl : ys.length = n) (hv : ∀ v, v ∈ ys → 0 ≤ v ∧ v.toNat < ls.length) (hw : ∀ x, x ∈ ws → x = k) (j : Nat) (hj : j ≤ i) :
    ∃ j' ws', lpK 180 Tryz.f180 53 1 h (csS h k n kb ys i (I (j : Nat)) ws) = some (.exit 2, csS h k n kb (insJ (keyL ls) j ys) i (I j') ws') ∧ ∀ x, x ∈ ws' → x = k := by
  have d := dt180
  simp [Tryz.f180, infoFn, infoRegs, List.lookup] at d
  have q := qt180
  simp [Tryz.f180, quietFn, quietRegs] at q
  have z1 := zs_sl hk 1 n 0 n
  have z2 := zs_fn hkb 94
  have key := loop_rel (P := Tryz.prog) (C := cfg) (sc := runScope Tryz.prog cfg 53 h.length (cfg.live 180) 0) (N := 53) (n0 := h.length) (K := cfg.live 180) (c := loopAt Tryz.f180 1)
    (fun s : Nat × List Int × List Nat => csS h k n kb s.2.1 i (I (s.1 : Nat)) s.2.2)
    (fun s => s.2.1.length = n ∧ (∀ v, v ∈ s.2.1 → 0 ≤ v ∧ v.toNat < ls.length) ∧ s.1 ≤ i ∧ ∀ x, x ∈ s.2.2 → x = k) (fun s => s.1)
    (fun s r => ∃ j' ws', r = (.exit 2, csS h k n kb (insJ (keyL ls) s.1 s.2.1) i (I j') ws') ∧ ∀ x, x ∈ ws' → x = k) ?_ (j, ys, ws) ⟨hl, hv, hj, hw⟩
  · obtain ⟨r, h1, j', ws', rfl, h2⟩ := key
    exact ⟨j', ws', h1, h2⟩
  clear hl hv hj hw ws ys j
  rintro ⟨j, ys, ws⟩ ⟨hl, hv, hj, hw⟩
  simp only at hl hv hj hw ⊢
  have hwk := wsOK_upd hk (ys := ys) hw
  cases j with
  | zero =>
    refine .inr ⟨(.exit 2, csS h k n kb ys i (I 0) (wsOf h.length ws)), ?_, nofun, 0, _, rfl, fun x hx => hw x (wsOf_mem hx).1⟩
    simp (disch := (first | omega | simp (disch := omega) [hk])) [round_eq, csS, Tryz.f180, lv180, q, -getElem?_pos, -tidy_eq]
    refine (tidy_callZ (n0 := h.length) (by simp) ?_ hwk).trans ?_ <;> simp (disch := omega) [plZ_cons, plZ_nil, z1, z2]
  | succ j =>
    obtain ⟨a, ha⟩ : ∃ a, ys[j + 1]? = some a := ⟨_, List.getElem?_eq_getElem (by omega)⟩
    obtain ⟨b, hbb⟩ : ∃ b, ys[j]? = some b := ⟨_, List.getElem?_eq_getElem (by omega)⟩
    have hjn : j < n := by omega
    have hjn1 : j + 1 < n := by omega
    have h01 : (0 : Int) ≤ (j : Int) + 1 := by omega
    obtain ⟨a0, al⟩ := hv a (List.mem_of_getElem? ha)
    obtain ⟨b0, bl⟩ := hv b (List.mem_of_getElem? hbb)
    have hrb : rowAt (updH h k 1 (intsOf ys)) kb 1 = some (1, [[.isl (lpsOf ls)]]) := by rw [upd_row_ne hne, hr]
    have ec := cmpL (updH h k 1 (intsOf ys)) kb ls hrb hb a b a0 b0 al bl
    have hst : insJ (keyL ls) (j + 1) ys = if keyL ls a < keyL ls b then insJ (keyL ls) j ((ys.set (j + 1) b).set j a) else ys := by
      conv => lhs; unfold insJ
      rw [ha, hbb]
    by_cases hab : keyL ls a < keyL ls b
    · have habI : ((keyL ls a : Nat) : Int) - ((keyL ls b : Nat) : Int) < 0 := by omega
      have hwk2 : ∀ x, x ∈ ws ++ [k, k] → x = k := fun x hx => by
        rcases List.mem_append.1 hx with hx | hx
        · exact hw x hx
        · simpa using hx
      rw [hst, if_pos hab]
      refine .inl ⟨(j, (ys.set (j + 1) b).set j a, wsOf h.length (ws ++ [k, k])), ?_, ⟨by simpa using hl, fun v hv' => ?_, by first | omega | (simp only; omega), fun x hx => hwk2 x (wsOf_mem hx).1⟩, by first | omega | (simp only; omega), fun r hr => hr⟩
      · generalize keyL ls a = ka at *
        generalize keyL ls b = kc at *
        simp (disch := (first | omega | simp (disch := omega) [hk, hl])) [round_eq, csS, Tryz.f180, lv180, q, ec, ha, hbb, habI, hl, hk, hjn, hjn1, h01, wrap_i64, d, unOK, apartR, disjoint, cellsApart, intsOf_set, -getElem?_pos, -tidy_eq]
        refine (tidy_callZ (n0 := h.length) (by simp) ?_ ?_).trans ?_
        · simp (disch := omega) [plZ_cons, plZ_nil, z1, z2]
        · exact wsOK_upd hk hwk2
        · simp
      · rcases List.mem_or_eq_of_mem_set hv' with hv' | rfl
        · rcases List.mem_or_eq_of_mem_set hv' with hv' | rfl
          · exact hv v hv'
          · exact ⟨b0, bl⟩
        · exact ⟨a0, al⟩
    · have habI : ¬ ((keyL ls a : Nat) : Int) - ((keyL ls b : Nat) : Int) < 0 := by omega
      rw [hst, if_neg hab]
      refine .inr ⟨(.exit 2, csS h k n kb ys i (I ((j : Int) + 1)) (wsOf h.length ws)), ?_, nofun, _, _, rfl, fun x hx => hw x (wsOf_mem hx).1⟩
      generalize keyL ls a = ka at *
      generalize keyL ls b = kc at *
      simp (disch := (first | omega | simp (disch := omega) [hk, hl])) [round_eq, csS, Tryz.f180, lv180, q, ec, ha, hbb, habI, hl, hk, hjn, hjn1, h01, wrap_i64, -getElem?_pos, -tidy_eq]
      refine (tidy_callZ (n0 := h.length) (by simp) ?_ hwk).trans ?_ <;> simp (disch := omega) [plZ_cons, plZ_nil, z1, z2]
end
end Go.Proofs.YtdkknhpdjcdmfaaGreat.Abs

/- The loops, those that are within others ahead of these: as the program tells it. -/
set_option linter.unusedSimpArgs false
set_option linter.unusedVariables false
set_option linter.unusedSectionVars false
namespace Go.Proofs.YtdkknhpdjcdmfaaGreat.Abs
open Go Go.RowKit Go.Proofs

section
variable (h : Heap) (k kb n : Nat) (hk : k < h.length) (hkb : kb < h.length) (hne : kb ≠ k) (hn : n ≤ 1000) (ls : List Lp) (hr : rowAt h kb 1 = some (1, [[.isl (lpsOf ls)]])) (hb : ∀ x, x ∈ ls → x.blocks.length ≤ 100000)
include hk hkb hne hn hr hb
theorem cs_out (ys : List Int) (hl : ys.length = n) (hv : ∀ v, v ∈ ys → 0 ≤ v ∧ v.toNat < ls.length) :
    ∃ i j' ws', lpK 180 Tryz.f180 53 0 h (csS h k n kb ys 1 .junk []) = some (.exit 0, csS h k n kb (isG (keyL ls) (n - 1) 1 ys) i j' ws') ∧ Zs h.length j' ∧ ∀ x, x ∈ ws' → x = k := by
  have z1 := zs_sl hk 1 n 0 n
  have z2 := zs_fn hkb 94
  have key := loop_rel (P := Tryz.prog) (C := cfg) (sc := runScope Tryz.prog cfg 53 h.length (cfg.live 180) 0) (N := 53) (n0 := h.length) (K := cfg.live 180) (c := loopAt Tryz.f180 0)
    (fun s : Nat × List Int × V × List Nat => csS h k n kb s.2.1 s.1 s.2.2.1 s.2.2.2)
    (fun s => s.2.1.length = n ∧ (∀ v, v ∈ s.2.1 → 0 ≤ v ∧ v.toNat < ls.length) ∧ Zs h.length s.2.2.1 ∧ ∀ x, x ∈ s.2.2.2 → x = k) (fun s => n - s.1)
    (fun s r => ∃ i j' ws', r = (.exit 0, csS h k n kb (isG (keyL ls) (n - s.1) s.1 s.2.1) i j' ws') ∧ Zs h.length j' ∧ ∀ x, x ∈ ws' → x = k) ?_ (1, ys, .junk, []) ⟨hl, hv, zs_junk _, by simp⟩
  · obtain ⟨r, h1, i, j', ws', rfl, h2⟩ := key
    exact ⟨i, j', ws', h1, h2⟩
  clear hl hv ys
  rintro ⟨i, ys, j, ws⟩ ⟨hl, hv, hj, hw⟩
  simp only at hl hv hj hw ⊢
  have hwk := wsOK_upd hk (ys := ys) hw
  rcases Nat.lt_or_ge i n with hi | hi
  · obtain ⟨j', ws', e, hw'⟩ := cs_in h k kb n hk hkb hne hn ls hr hb i hi ys (wsOf h.length ws) hl hv (fun x hx => hw x (wsOf_mem hx).1) i (Nat.le_refl _)
    have hl' := insJ_len (keyL ls) i ys
    have hmm := fun v => insJ_mem (key := keyL ls) (v := v) i ys
    have hgs : isG (keyL ls) (n - i) i ys = isG (keyL ls) (n - (i + 1)) (i + 1) (insJ (keyL ls) i ys) := by
      obtain ⟨m, hm⟩ : ∃ m, n - i = m + 1 := ⟨n - i - 1, by omega⟩
      rw [hm, isG, show n - (i + 1) = m by omega]
    rw [hgs]
    generalize insJ (keyL ls) i ys = ys' at *
    have hwk' := wsOK_upd hk (ys := ys') hw'
    have hiI : ((i : Nat) : Int) < ((n : Nat) : Int) := by omega
    refine .inl ⟨(i + 1, ys', I j', wsOf h.length ws'), ?_, ⟨by show ys'.length = n; omega, fun v hv' => hv v (hmm v hv'), zs_int _ _ _, fun x hx => hw' x (wsOf_mem hx).1⟩, by first | omega | (simp only; omega), fun r hr => hr⟩
    simp [csS, lpK, lv180, Tryz.f180] at e
    simp (disch := (first | omega | simp (disch := omega) [hk, hl])) [round_eq, csS, Tryz.f180, lv180, hiI, -getElem?_pos, -tidy_eq]
    rw [tidy_callZ (n0 := h.length) (by simp) ?_ hwk]
    rotate_left
    · simp (disch := omega) [plZ_cons, plZ_nil, z1, z2]
    simp (disch := (first | omega | simp (disch := omega) [hk, hl])) [csS, hiI, e, wrap_i64, -getElem?_pos, -tidy_eq]
    refine (tidy_callZ (n0 := h.length) (by simp) ?_ hwk').trans ?_ <;> simp (disch := omega) [plZ_cons, plZ_nil, z1, z2]
  · have hiI : ¬ ((i : Nat) : Int) < ((n : Nat) : Int) := by omega
    have hgs : isG (keyL ls) (n - i) i ys = ys := by rw [show n - i = 0 by omega]; rfl
    rw [hgs]
    refine .inr ⟨(.exit 0, csS h k n kb ys i j (wsOf h.length ws)), ?_, nofun, _, _, _, rfl, hj, fun x hx => hw x (wsOf_mem hx).1⟩
    simp (disch := (first | omega | simp (disch := omega) [hk, hl])) [round_eq, csS, Tryz.f180, lv180, hiI, -getElem?_pos, -tidy_eq]
    refine (tidy_callZ (n0 := h.length) (by simp) ?_ hwk).trans ?_ <;> simp (disch := omega) [plZ_cons, plZ_nil, z1, z2, hj]

theorem insortC (ys : List Int) (hl : ys.length = n) (hv : ∀ v, v ∈ ys → 0 ≤ v ∧ v.toNat < ls.length) :
    ∃ ws, CX 180 [.one (.sl k 1 n 0 n), I 0, I (n : Nat), .one (.fn 94 [.ptr kb 1 0 0])] (updH h k 1 (intsOf ys)) = some (.tup [], updH h k 1 (intsOf (isG (keyL ls) (n - 1) 1 ys)), ws) ∧ ∀ x, x ∈ ws → x = k := by
  obtain ⟨i, j', ws', e, hj, hw⟩ := cs_out h k kb n hk hkb hne hn ls hr hb ys hl hv
  have z1 := zs_sl hk 1 n 0 n
  have z2 := zs_fn hkb 94
  generalize isG (keyL ls) (n - 1) 1 ys = ys' at *
  have hwk := wsOK_upd hk (ys := ys') hw
  have hw0 : WsOK (updH h k 1 (intsOf ys)) [] := fun id hid => by simp at hid
  refine ⟨wsOf h.length ws', CI_of Tryz.func180 rfl 0 ?_, fun x hx => hw x (wsOf_mem hx).1⟩
  have hkp : cfg.keep 180 = 0 := rfl
  simp [csS, lpK, lv180, Tryz.f180] at e
  simp (disch := (first | omega | simp (disch := omega) [hk])) [Tryz.f180, lv180, hk, wrap_i64, -getElem?_pos, -tidy_eq, -wrapUp_zero]
  rw [tidy_callZ (n0 := h.length) (by simp) ?_ hw0]
  · simp (disch := (first | omega | simp (disch := omega) [hk])) [e, hkp, -tidy_eq, -wrapUp_zero]
    have := wrap_call (g := []) (H := updH h k 1 (intsOf ys')) (n0 := h.length) (by simp) hwk
    simpa using this
  · simp (disch := omega) [plZ_cons, plZ_nil, z1, z2]

def stS (h : Heap) (k n kb : Nat) (ys : List Int) (ws : List Nat) : St :=
  ⟨[(6, I 20), (8, I 20), (1, I (n : Nat)), (0, .one (.sl k 1 n 0 n)), (7, I 0), (2, .one (.fn 94 [.ptr kb 1 0 0]))], updH h k 1 (intsOf ys), ws⟩
omit hne hn hr hb in
theorem st_0 (hn2 : n ≤ 12) (ys : List Int) : lpK 141 Tryz.f141 63 0 h (stS h k n kb ys []) = some (.exit 0, stS h k n kb ys []) := by
  have z1 := zs_sl hk 1 n 0 n
  have z2 := zs_fn hkb 94
  have hw0 : WsOK (updH h k 1 (intsOf ys)) [] := fun id hid => by simp at hid
  have hni : ¬ (20 : Int) ≤ ((n : Nat) : Int) := by omega
  have key := loop_fun (P := Tryz.prog) (C := cfg) (sc := runScope Tryz.prog cfg 63 h.length (cfg.live 141) 0) (N := 63) (n0 := h.length) (K := cfg.live 141) (c := loopAt Tryz.f141 0)
    (fun _ : Nat => stS h k n kb ys []) (fun _ => True) (fun _ => 0) (fun _ => (.exit 0, stS h k n kb ys [])) ?_ 0 trivial
  · exact key
  intro i _
  refine .inr ⟨?_, nofun⟩
  have hni2 : ¬ 20 ≤ n := by omega
  simp (disch := (first | omega | simp (disch := omega) [hk])) [round_eq, stS, Tryz.f141, lv141, hni, hni2, -getElem?_pos, -tidy_eq]
  refine (tidy_callZ (n0 := h.length) (by simp) ?_ hw0).trans ?_ <;> simp (disch := omega) [plZ_cons, plZ_nil, z1, z2]
omit hne hn hr hb in
theorem st_1 (hn2 : n ≤ 12) (ys : List Int) (ws : List Nat) (hw : ∀ x, x ∈ ws → x = k) : lpK 141 Tryz.f141 63 1 h (stS h k n kb ys ws) = some (.exit 2, stS h k n kb ys (wsOf h.length ws)) := by
  have z1 := zs_sl hk 1 n 0 n
  have z2 := zs_fn hkb 94
  have hwk := wsOK_upd hk (ys := ys) hw
  have hni : ¬ (20 : Int) < ((n : Nat) : Int) := by omega
  have hni2 : ¬ 20 < n := by omega
  have key := loop_fun (P := Tryz.prog) (C := cfg) (sc := runScope Tryz.prog cfg 63 h.length (cfg.live 141) 0) (N := 63) (n0 := h.length) (K := cfg.live 141) (c := loopAt Tryz.f141 1)
    (fun _ : Nat => stS h k n kb ys ws) (fun _ => True) (fun _ => 0) (fun _ => (.exit 2, stS h k n kb ys (wsOf h.length ws))) ?_ 0 trivial
  · exact key
  intro i _
  refine .inr ⟨?_, nofun⟩
  simp (disch := (first | omega | simp (disch := omega) [hk])) [round_eq, stS, Tryz.f141, lv141, hni, hni2, -getElem?_pos, -tidy_eq]
  refine (tidy_callZ (n0 := h.length) (by simp) ?_ hwk).trans ?_ <;> simp (disch := omega) [plZ_cons, plZ_nil, z1, z2]

theorem stableC (hn2 : n ≤ 12) (ys : List Int) (hl : ys.length = n) (hv : ∀ v, v ∈ ys → 0 ≤ v ∧ v.toNat < ls.length) :
    ∃ ws, CX 141 [.one (.sl k 1 n 0 n), I (n : Nat), .one (.fn 94 [.ptr kb 1 0 0])] (updH h k 1 (intsOf ys)) = some (.tup [], updH h k 1 (intsOf (isG (keyL ls) (n - 1) 1 ys)), ws) ∧ ∀ x, x ∈ ws → x = k := by
  obtain ⟨ws1, e1, hw1⟩ := insortC h k kb n hk hkb hne hn ls hr hb ys hl hv
  have z1 := zs_sl hk 1 n 0 n
  have z2 := zs_fn hkb 94
  have e0 := st_0 h k kb n hk hkb hn2 ys
  generalize isG (keyL ls) (n - 1) 1 ys = ys' at *
  have e2 := st_1 h k kb n hk hkb hn2 ys' (wsOf h.length ws1) (fun x hx => hw1 x (wsOf_mem hx).1)
  have hw2 : ∀ x, x ∈ wsOf h.length (wsOf h.length ws1) → x = k := fun x hx => hw1 x (wsOf_mem (wsOf_mem hx).1).1
  have hwk1 := wsOK_upd hk (ys := ys') hw1
  have hwk := wsOK_upd hk (ys := ys') hw2
  have hw0 : WsOK (updH h k 1 (intsOf ys)) [] := fun id hid => by simp at hid
  refine ⟨wsOf h.length (wsOf h.length (wsOf h.length ws1)), CI_of Tryz.func141 rfl 0 ?_, fun x hx => hw2 x (wsOf_mem hx).1⟩
  have hkp : cfg.keep 141 = 0 := rfl
  simp [stS, lpK, lv141, Tryz.f141] at e0 e2
  simp (disch := (first | omega | simp (disch := omega) [hk])) [Tryz.f141, lv141, hk, wrap_i64, -getElem?_pos, -tidy_eq, -wrapUp_zero]
  rw [tidy_callZ (n0 := h.length) (by simp) ?_ hw0]
  rotate_left
  · simp (disch := omega) [plZ_cons, plZ_nil, z1, z2]
  simp (disch := (first | omega | simp (disch := omega) [hk])) [e0, e1, hkp, -tidy_eq, -wrapUp_zero]
  rw [tidy_callZ (n0 := h.length) (by simp) ?_ hwk1]
  rotate_left
  · simp (disch := omega) [plZ_cons, plZ_nil, z1, z2]
  simp (disch := (first | omega | simp (disch := omega) [hk])) [e2, hkp, -tidy_eq, -wrapUp_zero]
  have := wrap_call (g := []) (H := updH h k 1 (intsOf ys')) (n0 := h.length) (by simp) hwk
  simpa using this
theorem sortC (hn2 : n ≤ 12) (ys : List Int) (hl : ys.length = n) (hv : ∀ v, v ∈ ys → 0 ≤ v ∧ v.toNat < ls.length) :
    ∃ ws, CX 93 [.one (.sl k 1 n 0 n), .one (.fn 94 [.ptr kb 1 0 0])] (updH h k 1 (intsOf ys)) = some (.tup [], updH h k 1 (intsOf (isG (keyL ls) (n - 1) 1 ys)), ws) ∧ ∀ x, x ∈ ws → x = k := by
  obtain ⟨ws1, e1, hw1⟩ := stableC h k kb n hk hkb hne hn ls hr hb hn2 ys hl hv
  generalize isG (keyL ls) (n - 1) 1 ys = ys' at *
  have hwk := wsOK_upd hk (ys := ys') hw1
  refine ⟨wsOf h.length ws1, CI_of Tryz.func93 rfl 0 ?_, fun x hx => hw1 x (wsOf_mem hx).1⟩
  have hkp : cfg.keep 93 = 0 := rfl
  simp (disch := (first | omega | simp (disch := omega) [hk])) [Tryz.f93, hkp, e1, -getElem?_pos, -tidy_eq, -wrapUp_zero]
  have := wrap_call (g := []) (H := updH h k 1 (intsOf ys')) (n0 := h.length) (by simp) hwk
  simpa using this
end
end Go.Proofs.YtdkknhpdjcdmfaaGreat.Abs

/- The loops, those that are within others ahead of these: as both tell it. -/
set_option linter.unusedSimpArgs false
set_option linter.unusedVariables false
set_option linter.unusedSectionVars false
namespace Go.Proofs.YtdkknhpdjcdmfaaGreat.Abs
open Go Go.RowKit Go.Proofs

def capK (h : Heap) (f : FuncId) : V → Res
  | .one l => some (.one (.fn f [l]), h, [])
  | _ => none
theorem op_func1 {P : Program} {cf : CF} {slot : Option Nat} {T : Tmps} {h : Heap} {dst : Option Nat} {ty : TypeId} {pos : String} {after : Array Edge} {guard : Option (Nat × Bool)} (f : FuncId) (c : Operand) :
    absOp P cf slot T h ⟨dst, .makeFunc (.func f) #[] #[c], ty, pos, after, guard⟩ = capK h f (ev T c) := by
  simp only [absOp, capK]
  cases hv : ev T c <;> simp [hv, List.mapM_cons, List.mapM_nil, pureR]
@[simp] theorem capK_one (h : Heap) (f : FuncId) (l : Leaf) : capK h f (.one l) = some (.one (.fn f [l]), h, []) := rfl
def idN (n : Nat) : List Int := (List.range n).map fun i => ((i : Nat) : Int)
@[simp] theorem idN_length (n : Nat) : (idN n).length = n := by simp [idN]
def idP (n i : Nat) : List Int := idN i ++ List.replicate (n - i) 0
theorem idP_length {n i : Nat} (h : i ≤ n) : (idP n i).length = n := by simp [idP]; omega
theorem idP_set {n i : Nat} (h : i < n) : (idP n i).set i (i : Int) = idP n (i + 1) := by
  unfold idP
  rw [List.set_append_right _ _ (by simp), idN_length, Nat.sub_self]
  obtain ⟨m, hm⟩ : ∃ m, n - i = m + 1 := ⟨n - i - 1, by omega⟩
  rw [hm, List.replicate_succ, List.set_cons_zero, show n - (i + 1) = m by omega]
  simp [idN, List.range_succ]
theorem updH_two (h : Heap) (a b : Option AO) (es : List (List Leaf)) : updH (h ++ [a, b]) (h.length + 1) 1 es = h ++ [a, some (.row 1 es)] := by
  unfold updH
  rw [List.set_append_right _ _ (by omega)]
  simp
def irS (h : Heap) (ls : List Lp) (n : Nat) (ys : List Int) (i : Nat) : St :=
  ⟨[(1, .one (.ptr h.length 1 0 0)), (3, .one (.sl (h.length + 1) 1 n 0 n)), (10, I (i : Nat)), (9, I (n : Nat))], h ++ [some (.row 1 [[.isl (lpsOf ls)]]), some (.row 1 (intsOf ys))], []⟩
theorem ir_loop (h : Heap) (ls : List Lp) (n : Nat) (hn : n ≤ 1000) : lpK 44 Tryz.f44 22 0 h (irS h ls n (idP n 0) 0) = some (.exit 0, irS h ls n (idN n) n) := by
  have key := loop_fun (P := Tryz.prog) (C := cfg) (sc := runScope Tryz.prog cfg 22 h.length (cfg.live 44) 0) (N := 22) (n0 := h.length) (K := cfg.live 44) (c := loopAt Tryz.f44 0)
    (fun i : Nat => irS h ls n (idP n i) i) (fun i => i ≤ n) (fun i => n - i) (fun _ => (.exit 0, irS h ls n (idN n) n)) ?_ 0 (Nat.zero_le _)
  · exact key
  intro i hi
  have hl := idP_length hi
  rcases Nat.lt_or_ge i n with hlt | hge
  · have hltI : ((i : Nat) : Int) < ((n : Nat) : Int) := by omega
    obtain ⟨y, hy⟩ : ∃ y, (idP n i)[i]? = some y := ⟨_, List.getElem?_eq_getElem (by omega)⟩
    refine .inl ⟨i + 1, ?_, hlt, by omega, rfl⟩
    rw [← idP_set hlt]
    generalize idP n i = ys at *
    simp (disch := (first | omega | simp (disch := omega) [hl])) [round_eq, irS, Tryz.f44, lv44, hlt, hltI, hl, hy, wrap_i64, intsOf_set, -getElem?_pos]
  · have : i = n := by omega
    subst this
    have hz : idP i i = idN i := by simp [idP]
    rw [hz] at hl ⊢
    refine .inr ⟨?_, nofun⟩
    generalize idN i = ys at *
    simp (disch := (first | omega | simp (disch := omega) [hl])) [round_eq, irS, Tryz.f44, lv44, hl, -getElem?_pos]
theorem inner (h : Heap) (ls : List Lp) (hl : ls.length ≤ 12) (hb : ∀ x, x ∈ ls → x.blocks.length ≤ 100000) :
    CX 44 [Sl (lpsOf ls)] h = some (Sl (intsOf (isG (keyL ls) (ls.length - 1) 1 (idN ls.length))), h, []) := by
  have e1 := ir_loop h ls ls.length (by omega)
  obtain ⟨ws, e2, hw⟩ := sortC (h ++ [some (.row 1 [[.isl (lpsOf ls)]]), some (.row 1 (intsOf (idN ls.length)))]) (h.length + 1) h.length ls.length (by simp) (by simp) (by omega) (by omega) ls (by simp) hb hl (idN ls.length) (by simp) (fun v hv => by
    obtain ⟨i, hi, rfl⟩ := List.mem_map.1 hv
    have := List.mem_range.1 hi
    omega)
  rw [updH_two, updH_two] at e2
  have hws : wsOf h.length ws = [] := List.eq_nil_iff_forall_not_mem.2 fun x hx => by
    have h1 := hw x (wsOf_mem hx).1
    have h2 := (wsOf_mem hx).2
    omega
  have hlen : (isG (keyL ls) (ls.length - 1) 1 (idN ls.length)).length = ls.length := by
    have key : ∀ (m i : Nat) (ys : List Int), (isG (keyL ls) m i ys).length = ys.length := by
      intro m
      induction m with
      | zero => intro i ys; rfl
      | succ m ih => intro i ys; rw [isG, ih, insJ_len]
    rw [key]; simp
  have hz : idP ls.length 0 = List.replicate ls.length 0 := by simp [idP, idN]
  have hz2 : List.replicate ls.length [Leaf.int .i64 0] = intsOf (List.replicate ls.length 0) := by simp [intsOf]
  rw [hz] at e1
  refine CI_of Tryz.func44 rfl 0 ?_
  have hk : cfg.keep 44 = 0 := rfl
  generalize isG (keyL ls) (ls.length - 1) 1 (idN ls.length) = out at *
  have hidl := idN_length ls.length
  generalize idN ls.length = ys at *
  simp [irS, lpK, lv44, Tryz.f44] at e1
  simp (disch := (first | omega | simp (disch := omega) [])) [Tryz.f44, lv44, hk, hz2, op_func1, e1, e2, hws, hlen, room_of, wrap_i64, -getElem?_pos]
end Go.Proofs.YtdkknhpdjcdmfaaGreat.Abs

/- A few numbers put in order one by one: moved down, or put in. -/
set_option linter.unusedSimpArgs false
set_option linter.unusedVariables false
set_option linter.unusedSectionVars false
namespace Go.Proofs.YtdkknhpdjcdmfaaGreat.Abs
open Go Go.RowKit Go.Proofs

def insR (key : Int → Nat) (x : Int) : List Int → List Int
  | [] => [x]
  | v :: l => if key v ≤ key x then v :: insR key x l else x :: v :: l
def kN (key : Int → Nat) (x : Int) : List Int → Nat
  | [] => 0
  | v :: l => if key v ≤ key x then kN key x l + 1 else 0
def innF (key : Int → Nat) : Nat → List Int
  | 0 => []
  | m + 1 => insR key (m : Int) (innF key m)
theorem insR_len (key : Int → Nat) (x : Int) : ∀ l, (insR key x l).length = l.length + 1
  | [] => rfl
  | v :: l => by
    unfold insR
    split
    · simp [insR_len key x l]
    · simp
theorem innF_len (key : Int → Nat) : ∀ m, (innF key m).length = m
  | 0 => rfl
  | m + 1 => by rw [innF, insR_len, innF_len key m]
theorem insR_mem {key : Int → Nat} {x w : Int} : ∀ l, w ∈ insR key x l ↔ w = x ∨ w ∈ l
  | [] => by simp [insR]
  | v :: l => by
    unfold insR
    split
    · rw [List.mem_cons, insR_mem l, List.mem_cons]
      constructor
      · rintro (h | h | h)
        · exact .inr (.inl h)
        · exact .inl h
        · exact .inr (.inr h)
      · rintro (h | h | h)
        · exact .inr (.inl h)
        · exact .inl h
        · exact .inr (.inr h)
    · simp
theorem innF_mem {key : Int → Nat} {w : Int} : ∀ m, w ∈ innF key m → 0 ≤ w ∧ w < m
  | 0, h => by simp [innF] at h
  | m + 1, h => by
    rw [innF, insR_mem] at h
    rcases h with h | h
    · omega
    · have := innF_mem m h; omega
theorem insR_cut (key : Int → Nat) (x : Int) : ∀ l, insR key x l = l.take (kN key x l) ++ x :: l.drop (kN key x l)
  | [] => rfl
  | v :: l => by
    unfold insR kN
    split
    · rw [insR_cut key x l]; simp
    · simp
theorem kN_le (key : Int → Nat) (x : Int) : ∀ l, kN key x l ≤ l.length
  | [] => Nat.le_refl _
  | v :: l => by
    unfold kN
    split
    · have := kN_le key x l; simp; omega
    · simp
theorem kN_lt {key : Int → Nat} {x : Int} : ∀ {l : List Int} {k : Nat} {v : Int}, k < kN key x l → l[k]? = some v → key v ≤ key x
  | [], k, v, h, _ => by simp [kN] at h
  | w :: l, k, v, h, hv => by
    unfold kN at h
    split at h
    · rename_i hw
      cases k with
      | zero => simp at hv; subst hv; exact hw
      | succ k => exact kN_lt (l := l) (k := k) (by omega) (by simpa using hv)
    · omega
theorem kN_at {key : Int → Nat} {x : Int} : ∀ {l : List Int} {v : Int}, l[kN key x l]? = some v → ¬ key v ≤ key x
  | [], v, h => by simp at h
  | w :: l, v, h => by
    by_cases hw : key w ≤ key x
    · have hk : kN key x (w :: l) = kN key x l + 1 := by conv => lhs; unfold kN; rw [if_pos hw]
      rw [hk] at h
      exact kN_at (l := l) (by simpa using h)
    · have hk : kN key x (w :: l) = 0 := by unfold kN; rw [if_neg hw]
      rw [hk] at h
      simp at h
      subst h
      exact hw
theorem insR_snoc {key : Int → Nat} {x p : Int} (hp : ¬ key p ≤ key x) : ∀ l, insR key x (l ++ [p]) = insR key x l ++ [p]
  | [] => by
    show insR key x [p] = [x] ++ [p]
    unfold insR
    rw [if_neg hp]; rfl
  | v :: l => by
    rw [List.cons_append]
    unfold insR
    split
    · rw [insR_snoc hp l]; rfl
    · rfl
theorem insR_end {key : Int → Nat} {x : Int} : ∀ l, (∀ v, v ∈ l → key v ≤ key x) → insR key x l = l ++ [x]
  | [], _ => rfl
  | v :: l, h => by
    unfold insR
    rw [if_pos (h v (by simp)), insR_end l (fun w hw => h w (by simp [hw]))]
    rfl
theorem insR_sorted {key : Int → Nat} {x : Int} : ∀ l, l.Pairwise (fun a b => key a ≤ key b) → (insR key x l).Pairwise (fun a b => key a ≤ key b)
  | [], _ => by simp [insR]
  | v :: l, h => by
    obtain ⟨h1, h2⟩ := List.pairwise_cons.1 h
    unfold insR
    split
    · rename_i hv
      refine List.pairwise_cons.2 ⟨fun w hw => ?_, insR_sorted l h2⟩
      rcases (insR_mem l).1 hw with rfl | hw
      · exact hv
      · exact h1 w hw
    · rename_i hv
      refine List.pairwise_cons.2 ⟨fun w hw => ?_, h⟩
      rcases List.mem_cons.1 hw with rfl | hw
      · omega
      · have := h1 w hw; omega
theorem innF_sorted (key : Int → Nat) : ∀ m, (innF key m).Pairwise (fun a b => key a ≤ key b)
  | 0 => List.Pairwise.nil
  | m + 1 => insR_sorted _ (innF_sorted key m)

theorem insJ_ins {key : Int → Nat} {x : Int} : ∀ (Q : List Int) (S : List Int), Q.reverse.Pairwise (fun a b => key a ≤ key b) → insJ key Q.length (Q.reverse ++ x :: S) = insR key x Q.reverse ++ S
  | [], S, _ => rfl
  | p :: Q, S, h => by
    have hrev : (p :: Q).reverse = Q.reverse ++ [p] := by simp
    rw [hrev] at h ⊢
    obtain ⟨h1, _, h3⟩ := List.pairwise_append.1 h
    have hp : (Q.reverse ++ [p] ++ x :: S)[Q.length]? = some p := by
      rw [List.append_assoc, List.getElem?_append_right (by simp)]
      simp
    have hx : (Q.reverse ++ [p] ++ x :: S)[Q.length + 1]? = some x := by
      rw [List.append_assoc, List.getElem?_append_right (by simp)]
      simp
    rw [List.length_cons]
    unfold insJ
    rw [hx, hp]
    simp only
    by_cases hl : key x < key p
    · rw [if_pos hl]
      have hset : ((Q.reverse ++ [p] ++ x :: S).set (Q.length + 1) p).set Q.length x = Q.reverse ++ x :: (p :: S) := by
        rw [List.append_assoc, List.set_append_right _ _ (by simp), List.set_append_right _ _ (by simp)]
        simp
      rw [hset, insJ_ins Q (p :: S) h1, insR_snoc (by omega)]
      simp
    · rw [if_neg hl, insR_end]
      · simp
      · intro v hv
        rcases List.mem_append.1 hv with hv | hv
        · have := h3 v hv p (by simp); omega
        · rw [List.mem_singleton.1 hv]; omega
theorem isG_inn {key : Int → Nat} {n : Nat} : ∀ (m i : Nat), i + m = n → isG key m i (innF key i ++ (idN n).drop i) = innF key n
  | 0, i, h => by
    obtain rfl : i = n := by omega
    rw [isG]
    have : (idN i).drop i = [] := List.drop_eq_nil_iff.2 (by simp)
    rw [this, List.append_nil]
  | m + 1, i, h => by
    have hlt : i < (idN n).length := by simp; omega
    have hget : (idN n)[i] = (i : Int) := by simp [idN]
    have hd : (idN n).drop i = (i : Int) :: (idN n).drop (i + 1) := by
      rw [List.drop_eq_getElem_cons hlt, hget]
    rw [isG, hd]
    have hs := innF_sorted key i
    have hr : (innF key i).reverse.reverse = innF key i := List.reverse_reverse _
    have := insJ_ins (x := (i : Int)) (innF key i).reverse ((idN n).drop (i + 1)) (by rw [hr]; exact hs)
    rw [hr, List.length_reverse, innF_len] at this
    rw [this]
    exact isG_inn m (i + 1) (by omega)
theorem inn_is (key : Int → Nat) (n : Nat) : isG key (n - 1) 1 (idN n) = innF key n := by
  cases n with
  | zero => rfl
  | succ n =>
    have := isG_inn (key := key) (n := n + 1) n 1 (by omega)
    have h1 : innF key 1 ++ (idN (n + 1)).drop 1 = idN (n + 1) := by
      have hlt : 0 < (idN (n + 1)).length := by simp
      have hget : (idN (n + 1))[0] = (0 : Int) := by simp [idN]
      have h2 := List.drop_eq_getElem_cons hlt
      rw [List.drop_zero, hget] at h2
      rw [h2]
      rfl
    rw [h1] at this
    exact this
end Go.Proofs.YtdkknhpdjcdmfaaGreat.Abs
