/- YtdkknhpdjcdmfaaGreatJC45: texts that follow each other, as one. -/
import Derived.Test.YtdkknhpdjcdmfaaGreatJC44
/- Which blocks are reached from some: round by round. -/
set_option linter.unusedSimpArgs false
set_option linter.unusedVariables false
set_option linter.unusedSectionVars false
namespace Go.Proofs.YtdkknhpdjcdmfaaGreat.Abs
open Go Go.RowKit Go.Proofs

section
variable (h : Heap) (E : List (List Int)) (but : Int) (from_ : List Int) (hE : E.length ≤ 1000) (hEl : ∀ l, l ∈ E → l.length ≤ 100000 ∧ ∀ x, x ∈ l → 0 ≤ x ∧ x < E.length)
include hE hEl

/-- All to which one block goes. -/
theorem rc_d (i j : Nat) (op es : List Int) (k : Nat) (hk : E[k]? = some es) (hRk : Rch E from_ but k) (Q : Nat → Prop) (U : Nat) (hU : U ≤ 1000) (met : List Bool) (nx : List Int)
    (g1 : RI E.length E from_ but met (fun v => v = k ∨ Q v ∨ (v : Int) ∈ nx)) (g2 : ∀ x, x ∈ from_ → x ≠ but → Mt met x.toNat) (g3 : OpOK E from_ but nx) (g4 : nx.length + unmet met ≤ U) :
    ∃ met' nx', RI E.length E from_ but met' (fun v => Q v ∨ (v : Int) ∈ nx') ∧ (∀ x, x ∈ from_ → x ≠ but → Mt met' x.toNat) ∧ OpOK E from_ but nx' ∧ nx'.length + unmet met' ≤ U ∧
    lpK 88 Tryz.f88 87 3 h (rcS h E but .junk .junk .junk met none (I (i : Nat)) (I (E.length : Nat)) (I (j : Nat)) (I (op.length : Nat)) (some op) (I (0 : Nat)) (I (es.length : Nat)) (Sl (intsOf es)) (some nx)) =
      some (.exit 6, rcS h E but .junk .junk .junk met' none (I (i : Nat)) (I (E.length : Nat)) (I (j : Nat)) (I (op.length : Nat)) (some op) (I (es.length : Nat)) (I (es.length : Nat)) (Sl (intsOf es)) (some nx')) := by
  obtain ⟨hes, heb⟩ := hEl es (List.mem_of_getElem? hk)
  have hgd : E.getD k [] = es := by rw [List.getD, hk]; rfl
  have key := loop_rel (P := Tryz.prog) (C := cfg) (sc := runScope Tryz.prog cfg 87 h.length (cfg.live 88) 0) (N := 87) (n0 := h.length) (K := cfg.live 88) (c := loopAt Tryz.f88 3)
    (fun s : Nat × List Bool × List Int => rcS h E but .junk .junk .junk s.2.1 none (I (i : Nat)) (I (E.length : Nat)) (I (j : Nat)) (I (op.length : Nat)) (some op) (I (s.1 : Nat)) (I (es.length : Nat)) (Sl (intsOf es)) (some s.2.2))
    (fun s => s.1 ≤ es.length ∧ RI E.length E from_ but s.2.1 (fun v => v = k ∨ Q v ∨ (v : Int) ∈ s.2.2) ∧ (∀ x, x ∈ from_ → x ≠ but → Mt s.2.1 x.toNat) ∧ OpOK E from_ but s.2.2 ∧ s.2.2.length + unmet s.2.1 ≤ U ∧ ∀ (t : Nat) w, es[t]? = some w → t < s.1 → w ≠ but → Mt s.2.1 w.toNat) (fun s => es.length - s.1)
    (fun s r => ∃ met' nx', RI E.length E from_ but met' (fun v => Q v ∨ (v : Int) ∈ nx') ∧ (∀ x, x ∈ from_ → x ≠ but → Mt met' x.toNat) ∧ OpOK E from_ but nx' ∧ nx'.length + unmet met' ≤ U ∧
      r = (.exit 6, rcS h E but .junk .junk .junk met' none (I (i : Nat)) (I (E.length : Nat)) (I (j : Nat)) (I (op.length : Nat)) (some op) (I (es.length : Nat)) (I (es.length : Nat)) (Sl (intsOf es)) (some nx'))) ?_ (0, met, nx) ⟨Nat.zero_le _, g1, g2, g3, g4, fun t w _ ht => by omega⟩
  · obtain ⟨r, h1, met', nx', h2, h3, h4, h5, rfl⟩ := key
    exact ⟨met', nx', h2, h3, h4, h5, h1⟩
  clear g1 g2 g3 g4 met nx
  rintro ⟨p, met, nx⟩ ⟨j1, j2, j3, j4, j5, j6⟩
  simp only at j1 j2 j3 j4 j5 j6 ⊢
  have hml := j2.len
  rcases Nat.lt_or_ge p es.length with hlt | hge
  · have hltI : ((p : Nat) : Int) < ((es.length : Nat) : Int) := by omega
    obtain ⟨x, hx⟩ : ∃ x, es[p]? = some x := ⟨_, List.getElem?_eq_getElem hlt⟩
    have hxm := List.mem_of_getElem? hx
    obtain ⟨x0, xl⟩ := heb x hxm
    have xln : x.toNat < E.length := by omega
    have xlm : x.toNat < met.length := by omega
    obtain ⟨y, hy⟩ : ∃ y, met[x.toNat]? = some y := ⟨_, List.getElem?_eq_getElem xlm⟩
    by_cases hb : x = but
    · have hbI : (x != but) = false := by simp [hb]
      refine .inl ⟨(p + 1, met, nx), ?_, ⟨hlt, j2, j3, j4, j5, fun t w hw ht hn => ?_⟩, by simp only; omega, fun r h => h⟩
      · simp (disch := (first | omega | simp (disch := omega) [])) [round_eq, rcS, Tryz.f88, lv88, hx, hlt, hltI, hbI, hb, wrap_i64, -getElem?_pos]
      · rcases Nat.lt_or_ge t p with hji | hji
        · exact j6 t w hw hji hn
        · have : t = p := by simp only at ht; omega
          subst this
          rw [hx] at hw; cases hw
          exact absurd hb hn
    · have hbI : (x != but) = true := by simp [hb]
      cases y with
      | true =>
        refine .inl ⟨(p + 1, met, nx), ?_, ⟨hlt, j2, j3, j4, j5, fun t w hw ht hn => ?_⟩, by simp only; omega, fun r h => h⟩
        · simp (disch := (first | omega | simp (disch := omega) [])) [round_eq, rcS, Tryz.f88, lv88, hx, hlt, hltI, hbI, x0, xlm, hy, wrap_i64, -getElem?_pos]
        · rcases Nat.lt_or_ge t p with hji | hji
          · exact j6 t w hw hji hn
          · have : t = p := by simp only at ht; omega
            subst this
            rw [hx] at hw; cases hw
            exact hy
      | false =>
        have hnm : ¬ Mt met x.toNat := by unfold Mt; rw [hy]; simp
        have hun := unmet_set' xlm hnm
        have hrx : Rch E from_ but x.toNat := .step hRk (by rw [Int.toNat_of_nonneg x0, hgd]; exact hxm) (by rw [Int.toNat_of_nonneg x0]; exact hb)
        have hset := j2.set xln hrx
        refine .inl ⟨(p + 1, met.set x.toNat true, nx ++ [x]), ?_, ⟨hlt, hset.mono fun v hv => .inl ?_, fun x' hx' hn' => (mt_set xlm).2 (.inr (j3 x' hx' hn')), fun z hz => ?_, ?_, fun t w hw ht hn => (mt_set xlm).2 ?_⟩, by simp only; omega, fun r h => h⟩
        · simp (disch := (first | omega | simp (disch := omega) [])) [round_eq, rcS, Tryz.f88, lv88, hx, hlt, hltI, hbI, x0, xlm, hy, wrap_i64, room_of, boolsOf_set, intsOf_snoc, -getElem?_pos]
        · rcases hv with (hv | hv | hv) | rfl
          · exact .inl hv
          · exact .inr (.inl hv)
          · exact .inr (.inr (by simp [hv]))
          · exact .inr (.inr (by simp; right; omega))
        · rcases List.mem_append.1 hz with hz | hz
          · exact j4 z hz
          · rw [List.mem_singleton.1 hz]; exact ⟨x0, xl, hrx⟩
        · simp; omega
        · rcases Nat.lt_or_ge t p with hji | hji
          · exact .inr (j6 t w hw hji hn)
          · have : t = p := by simp only at ht; omega
            subst this
            rw [hx] at hw; cases hw
            exact .inl rfl
  · have : p = es.length := by omega
    subst this
    refine .inr ⟨(.exit 6, rcS h E but .junk .junk .junk met none (I (i : Nat)) (I (E.length : Nat)) (I (j : Nat)) (I (op.length : Nat)) (some op) (I (es.length : Nat)) (I (es.length : Nat)) (Sl (intsOf es)) (some nx)), ?_, nofun, met, nx, j2.mono fun v hv => ?_, j3, j4, j5, rfl⟩
    · simp (disch := (first | omega | simp (disch := omega) [])) [round_eq, rcS, Tryz.f88, lv88, -getElem?_pos]
    · rcases hv with hv | hv
      · subst hv
        refine .inr fun w hw hn => ?_
        rw [hgd] at hw
        obtain ⟨t, ht⟩ := List.getElem?_of_mem hw
        exact j6 t w ht (List.getElem?_eq_some_iff.1 ht).1 hn
      · exact .inl hv

/-- All to which those go that were met last. -/
theorem rc_c (i : Nat) (op : List Int) (hop : OpOK E from_ but op) (hopl : op.length ≤ 1000) (U : Nat) (hU : U ≤ 1000) (met : List Bool)
    (g1 : RI E.length E from_ but met (fun v => (v : Int) ∈ op)) (g2 : ∀ x, x ∈ from_ → x ≠ but → Mt met x.toNat) (g4 : unmet met ≤ U) :
    ∃ met' nx', RI E.length E from_ but met' (fun v => (v : Int) ∈ nx') ∧ (∀ x, x ∈ from_ → x ≠ but → Mt met' x.toNat) ∧ OpOK E from_ but nx' ∧ nx'.length + unmet met' ≤ U ∧
    lpK 88 Tryz.f88 87 2 h (rcS h E but .junk .junk .junk met none (I (i : Nat)) (I (E.length : Nat)) (I (0 : Nat)) (I (op.length : Nat)) (some op) .junk .junk .junk (some [])) =
      some (.exit 4, rcS h E but .junk .junk .junk met' none (I (i : Nat)) (I (E.length : Nat)) (I (op.length : Nat)) (I (op.length : Nat)) (some op) .junk .junk .junk (some nx')) := by
  have key := loop_rel (P := Tryz.prog) (C := cfg) (sc := runScope Tryz.prog cfg 87 h.length (cfg.live 88) 0) (N := 87) (n0 := h.length) (K := cfg.live 88) (c := loopAt Tryz.f88 2)
    (fun s : Nat × List Bool × List Int => rcS h E but .junk .junk .junk s.2.1 none (I (i : Nat)) (I (E.length : Nat)) (I (s.1 : Nat)) (I (op.length : Nat)) (some op) .junk .junk .junk (some s.2.2))
    (fun s => s.1 ≤ op.length ∧ RI E.length E from_ but s.2.1 (fun v => (v : Int) ∈ op.drop s.1 ∨ (v : Int) ∈ s.2.2) ∧ (∀ x, x ∈ from_ → x ≠ but → Mt s.2.1 x.toNat) ∧ OpOK E from_ but s.2.2 ∧ s.2.2.length + unmet s.2.1 ≤ U) (fun s => op.length - s.1)
    (fun s r => ∃ met' nx', RI E.length E from_ but met' (fun v => (v : Int) ∈ nx') ∧ (∀ x, x ∈ from_ → x ≠ but → Mt met' x.toNat) ∧ OpOK E from_ but nx' ∧ nx'.length + unmet met' ≤ U ∧
      r = (.exit 4, rcS h E but .junk .junk .junk met' none (I (i : Nat)) (I (E.length : Nat)) (I (op.length : Nat)) (I (op.length : Nat)) (some op) .junk .junk .junk (some nx'))) ?_ (0, met, []) ⟨Nat.zero_le _, g1.mono fun v hv => .inl (.inl hv), g2, fun x hx => by simp at hx, by simpa using g4⟩
  · obtain ⟨r, h1, met', nx', h2, h3, h4, h5, rfl⟩ := key
    exact ⟨met', nx', h2, h3, h4, h5, h1⟩
  clear g1 g2 g4 met
  rintro ⟨j, met, nx⟩ ⟨j1, j2, j3, j4, j5⟩
  simp only at j1 j2 j3 j4 j5 ⊢
  rcases Nat.lt_or_ge j op.length with hlt | hge
  · have hltI : ((j : Nat) : Int) < ((op.length : Nat) : Int) := by omega
    obtain ⟨x, hx⟩ : ∃ x, op[j]? = some x := ⟨_, List.getElem?_eq_getElem hlt⟩
    obtain ⟨x0, xl, hrx⟩ := hop x (List.mem_of_getElem? hx)
    have xln : x.toNat < E.length := by omega
    obtain ⟨es, hes⟩ : ∃ es, E[x.toNat]? = some es := ⟨_, List.getElem?_eq_getElem xln⟩
    have hdr : op.drop j = x :: op.drop (j + 1) := by
      rw [List.drop_eq_getElem_cons hlt]; rw [List.getElem?_eq_getElem hlt] at hx; cases hx; rfl
    have hesl := (hEl es (List.mem_of_getElem? hes)).1
    obtain ⟨met', nx', k1, k2, k3, k4, e⟩ := rc_d h E but from_ hE hEl i j op es x.toNat hes hrx (fun v => (v : Int) ∈ op.drop (j + 1)) U hU met nx (j2.mono fun v hv => .inl (by
      rw [hdr] at hv
      rcases hv with hv | hv
      · rcases List.mem_cons.1 hv with hv | hv
        · exact .inl (by omega)
        · exact .inr (.inl hv)
      · exact .inr (.inr hv))) j3 j4 j5
    refine .inl ⟨(j + 1, met', nx'), ?_, ⟨hlt, k1, k2, k3, k4⟩, by simp only; omega, fun r h => h⟩
    have hml := j2.len
    have hml' := k1.len
    simp [rcS, lpK, lv88, Tryz.f88] at e
    simp (disch := (first | omega | simp (disch := omega) [])) [round_eq, rcS, Tryz.f88, lv88, hx, hlt, hltI, x0, xln, hes, e, wrap_i64, -getElem?_pos]
  · have : j = op.length := by omega
    subst this
    refine .inr ⟨(.exit 4, rcS h E but .junk .junk .junk met none (I (i : Nat)) (I (E.length : Nat)) (I (op.length : Nat)) (I (op.length : Nat)) (some op) .junk .junk .junk (some nx)), ?_, nofun, met, nx, j2.mono fun v hv => ?_, j3, j4, j5, rfl⟩
    · simp (disch := (first | omega | simp (disch := omega) [])) [round_eq, rcS, Tryz.f88, lv88, -getElem?_pos]
    · rcases hv with hv | hv
      · simp at hv
      · exact .inl hv

/-- Round by round. -/
theorem rc_b (op : List Int) (met : List Bool) (g1 : RI E.length E from_ but met (fun v => (v : Int) ∈ op)) (g2 : ∀ x, x ∈ from_ → x ≠ but → Mt met x.toNat) (g3 : OpOK E from_ but op) (g4 : op.length + unmet met ≤ E.length) :
    ∃ met' op' i', met'.length = E.length ∧ (∀ v, Mt met' v ↔ Rch E from_ but v) ∧
    lpK 88 Tryz.f88 87 1 h (rcS h E but .junk .junk .junk met (some op) (I (0 : Nat)) (I (E.length : Nat)) .junk .junk none .junk .junk .junk none) =
      some (.exit 2, rcS h E but .junk .junk .junk met' (some op') (I (i' : Nat)) (I (E.length : Nat)) .junk .junk none .junk .junk .junk none) := by
  have key := loop_rel (P := Tryz.prog) (C := cfg) (sc := runScope Tryz.prog cfg 87 h.length (cfg.live 88) 0) (N := 87) (n0 := h.length) (K := cfg.live 88) (c := loopAt Tryz.f88 1)
    (fun s : Nat × List Bool × List Int => rcS h E but .junk .junk .junk s.2.1 (some s.2.2) (I (s.1 : Nat)) (I (E.length : Nat)) .junk .junk none .junk .junk .junk none)
    (fun s => s.1 ≤ E.length ∧ RI E.length E from_ but s.2.1 (fun v => (v : Int) ∈ s.2.2) ∧ (∀ x, x ∈ from_ → x ≠ but → Mt s.2.1 x.toNat) ∧ OpOK E from_ but s.2.2 ∧ s.2.2.length ≤ E.length ∧ (s.2.2 ≠ [] → unmet s.2.1 + s.1 + 1 ≤ E.length)) (fun s => E.length - s.1)
    (fun s r => ∃ met' op' i', met'.length = E.length ∧ (∀ v, Mt met' v ↔ Rch E from_ but v) ∧ r = (.exit 2, rcS h E but .junk .junk .junk met' (some op') (I (i' : Nat)) (I (E.length : Nat)) .junk .junk none .junk .junk .junk none)) ?_ (0, met, op)
    ⟨Nat.zero_le _, g1, g2, g3, by show op.length ≤ _; omega, fun hne => by
      have : 0 < op.length := List.length_pos_iff.2 hne
      show unmet met + 0 + 1 ≤ _
      omega⟩
  · obtain ⟨r, h1, met', op', i', h2, h3, rfl⟩ := key
    exact ⟨met', op', i', h2, h3, h1⟩
  clear g1 g2 g3 g4 met op
  rintro ⟨i, met, op⟩ ⟨j1, j2, j3, j4, j5, j6⟩
  simp only at j1 j2 j3 j4 j5 j6 ⊢
  have hml := j2.len
  have done_ : op = [] → ∀ v, Mt met v ↔ Rch E from_ but v := fun e => RI.all (j2.mono fun v hv => by rw [e] at hv; simp at hv) j3
  rcases Nat.lt_or_ge i E.length with hlt | hge
  · have hltI : ((i : Nat) : Int) < ((E.length : Nat) : Int) := by omega
    by_cases ho : op = []
    · refine .inr ⟨(.exit 2, rcS h E but .junk .junk .junk met (some op) (I (i : Nat)) (I (E.length : Nat)) .junk .junk none .junk .junk .junk none), ?_, nofun, met, op, i, hml, done_ ho, rfl⟩
      subst ho
      simp (disch := (first | omega | simp (disch := omega) [])) [round_eq, rcS, Tryz.f88, lv88, hlt, hltI, -getElem?_pos]
    · have hop := List.length_pos_iff.2 ho
      have h6 := j6 ho
      obtain ⟨met', nx', k1, k2, k3, k4, e⟩ := rc_c h E but from_ hE hEl i op j4 (by omega) (unmet met) (by omega) met j2 j3 (Nat.le_refl _)
      refine .inl ⟨(i + 1, met', nx'), ?_, ⟨hlt, k1, k2, k3, by simp only; omega, fun hne => by have := List.length_pos_iff.2 hne; simp only; simp only at this; omega⟩, by simp only; omega, fun r h => h⟩
      have hml' := k1.len
      have ho0 : ¬ op.length = 0 := by omega
      have hoI : (((op.length : Nat) : Int) == 0) = false := by simp; omega
      simp [rcS, lpK, lv88, Tryz.f88] at e
      simp (disch := (first | omega | simp (disch := omega) [])) [round_eq, rcS, Tryz.f88, lv88, hlt, hltI, ho, ho0, hoI, e, wrap_i64, -getElem?_pos]
  · have hi : i = E.length := by omega
    have ho : op = [] := by
      by_cases ho : op = []
      · exact ho
      · have := j6 ho; omega
    subst hi
    refine .inr ⟨(.exit 2, rcS h E but .junk .junk .junk met (some op) (I (E.length : Nat)) (I (E.length : Nat)) .junk .junk none .junk .junk .junk none), ?_, nofun, met, op, E.length, hml, done_ ho, rfl⟩
    simp (disch := (first | omega | simp (disch := omega) [])) [round_eq, rcS, Tryz.f88, lv88, -getElem?_pos]
end

/-- Which blocks are reached from some of a caller's, not by way of one. -/
theorem reached (h : Heap) (k : Nat) (E : List (List Int)) (but : Int) (from_ : List Int) (hr : rowAt h k from_.length = some (1, intsOf from_)) (hfl : from_.length ≤ 100000) (hE : E.length ≤ 1000) (hlow : ∀ x, x ∈ from_ → 0 ≤ x ∧ x < E.length) (hEl : ∀ l, l ∈ E → l.length ≤ 100000 ∧ ∀ x, x ∈ l → 0 ≤ x ∧ x < E.length) :
    ∃ met : List Bool, met.length = E.length ∧ (∀ v, Mt met v ↔ Rch E from_ but v) ∧ CX 88 [Sl (listsOf E), .one (.sl k 1 from_.length 0 from_.length), I but] h = some (Sl (boolsOf met), h, []) := by
  have hk : k < h.length := (List.getElem?_eq_some_iff.1 (rowAt_some hr).1).1
  obtain ⟨met1, op1, a1, a2, a3, a4, e1⟩ := rc_a h k hk E but from_ hr hfl hE hlow _ rfl
  obtain ⟨met2, op2, i2, b1, b2, e2⟩ := rc_b h E but from_ hE hEl op1 met1 a1 a2 a3 a4
  have hnk : ¬ h.length ≤ k := by omega
  refine ⟨met2, b1, b2, ?_⟩
  refine CI_of Tryz.func88 rfl 0 ?_
  have hkp : cfg.keep 88 = 0 := rfl
  have hz : List.replicate E.length [Leaf.bool false] = boolsOf (List.replicate E.length false) := by simp [boolsOf]
  have hl1 := a1.len
  simp [rcS, lpK, lv88, Tryz.f88, hl1, b1] at e1 e2
  simp (disch := (first | omega | simp (disch := omega) [])) [Tryz.f88, lv88, hkp, hnk, hz, e1, e2, b1, hl1, row_lo hk, room_of, wrap_i64, -getElem?_pos]
end Go.Proofs.YtdkknhpdjcdmfaaGreat.Abs

/- Loops as the machine holds them; the smallest other loop that holds a loop's head. -/
set_option linter.unusedSimpArgs false
set_option linter.unusedVariables false
namespace Go.Proofs.YtdkknhpdjcdmfaaGreat.Abs
open Go Go.RowKit Go.Proofs

def encLp (x : Lp) : List Leaf := [.int .i64 x.head, .isl (intsOf x.blocks), .isl (intsOf x.backs), .int .i64 x.up]
def lpsOf (ls : List Lp) : List (List Leaf) := ls.map encLp
@[simp] theorem lpsOf_length (ls : List Lp) : (lpsOf ls).length = ls.length := by simp [lpsOf]
@[simp] theorem lpsOf_nil : lpsOf [] = [] := rfl
@[simp] theorem lpsOf_get (ls : List Lp) (i : Nat) : (lpsOf ls)[i]? = (ls[i]?).map encLp := by simp [lpsOf]
@[simp] theorem lpsOf_plain (ls : List Lp) : plainR (lpsOf ls) = true := plainR_map (fun _ => rfl) ls
@[simp] theorem lpsOf_tree (ls : List Lp) : treeR (lpsOf ls) = true := treeR_map (fun _ => rfl) ls
@[simp] theorem lpsOf_sized (ls : List Lp) : sized 4 (lpsOf ls) = true := sized_map (n := 4) (f := encLp) (fun _ => rfl) ls
theorem lpsOf_snoc (ls : List Lp) (x : Lp) : lpsOf ls ++ [encLp x] = lpsOf (ls ++ [x]) := by simp [lpsOf]
theorem lpsOf_set (ls : List Lp) (i : Nat) (x : Lp) : (lpsOf ls).set i (encLp x) = lpsOf (ls.set i x) := by simp [lpsOf, List.map_set]

def wiS (h : Heap) (ls : List Lp) (i k : Nat) (best : Int) : St := ⟨[(0, Sl (lpsOf ls)), (10, I (k : Nat)), (9, I (ls.length : Nat)), (8, Sl (lpsOf ls)), (1, I (i : Nat)), (5, I best)], h, []⟩
theorem wi_loop (h : Heap) (ls : List Lp) (hl : ls.length ≤ 100000) (hb : ∀ x, x ∈ ls → x.blocks.length ≤ 100000) (i : Nat) (hi : i < ls.length) :
    ∃ r : Int, lpK 89 Tryz.f89 58 0 h (wiS h ls i 0 (-1)) = some (.exit 0, wiS h ls i ls.length r) := by
  have q := qt89
  simp [Tryz.f89, quietFn, quietRegs] at q
  have key := loop_rel (P := Tryz.prog) (C := cfg) (sc := runScope Tryz.prog cfg 58 h.length (cfg.live 89) 0) (N := 58) (n0 := h.length) (K := cfg.live 89) (c := loopAt Tryz.f89 0)
    (fun s : Nat × Int => wiS h ls i s.1 s.2) (fun s => s.1 ≤ ls.length ∧ (s.2 < 0 ∨ s.2.toNat < ls.length)) (fun s => ls.length - s.1)
    (fun s r => ∃ b : Int, r = (.exit 0, wiS h ls i ls.length b)) ?_ (0, -1) ⟨Nat.zero_le _, .inl (by simp)⟩
  · obtain ⟨r, h1, b, rfl⟩ := key
    exact ⟨b, h1⟩
  rintro ⟨k, best⟩ ⟨j1, j2⟩
  simp only at j1 j2 ⊢
  obtain ⟨y, hy⟩ : ∃ y, ls[i]? = some y := ⟨_, List.getElem?_eq_getElem hi⟩
  rcases Nat.lt_or_ge k ls.length with hlt | hge
  · have hltI : ((k : Nat) : Int) < ((ls.length : Nat) : Int) := by omega
    obtain ⟨x, hx⟩ : ∃ x, ls[k]? = some x := ⟨_, List.getElem?_eq_getElem hlt⟩
    have hxb := hb x (List.mem_of_getElem? hx)
    have hyb := hb y (List.mem_of_getElem? hy)
    have hfit : Fit x.blocks := by show x.blocks.length ≤ _; omega
    by_cases hki : k = i
    · subst hki
      refine .inl ⟨(k + 1, best), ?_, ⟨hlt, j2⟩, by simp only; omega, fun r h => h⟩
      simp (disch := omega) [round_eq, wiS, encLp, Tryz.f89, lv89, q, hx, hlt, hltI, wrap_i64, -getElem?_pos]
    · have hkI : ¬ ((k : Nat) : Int) = ((i : Nat) : Int) := by omega
      have hkB : (((k : Nat) : Int) == ((i : Nat) : Int)) = false := by simp; omega
      by_cases hc : x.blocks.contains y.head = true
      · by_cases hle : x.blocks.length ≤ y.blocks.length
        · have hleI : ((x.blocks.length : Nat) : Int) ≤ ((y.blocks.length : Nat) : Int) := by omega
          refine .inl ⟨(k + 1, best), ?_, ⟨hlt, j2⟩, by simp only; omega, fun r h => h⟩
          simp (disch := omega) [round_eq, wiS, encLp, Tryz.f89, lv89, q, hx, hy, hi, hlt, hltI, hki, hkI, hkB, contains _ x.blocks hfit, hc, hle, hleI, wrap_i64, -getElem?_pos, -List.contains_eq_mem]
        · have hleI : ¬ ((x.blocks.length : Nat) : Int) ≤ ((y.blocks.length : Nat) : Int) := by omega
          by_cases hbn : best < 0
          · refine .inl ⟨(k + 1, (k : Int)), ?_, ⟨hlt, .inr (by simp only; omega)⟩, by simp only; omega, fun r h => h⟩
            simp (disch := omega) [round_eq, wiS, encLp, Tryz.f89, lv89, q, hx, hy, hi, hlt, hltI, hki, hkI, hkB, contains _ x.blocks hfit, hc, hle, hleI, hbn, wrap_i64, -getElem?_pos, -List.contains_eq_mem]
          · have hb2 : best.toNat < ls.length := j2.resolve_left hbn
            have hb0 : 0 ≤ best := by omega
            obtain ⟨z, hz⟩ : ∃ z, ls[best.toNat]? = some z := ⟨_, List.getElem?_eq_getElem hb2⟩
            by_cases hlz : x.blocks.length < z.blocks.length
            · have hlzI : ((x.blocks.length : Nat) : Int) < ((z.blocks.length : Nat) : Int) := by omega
              refine .inl ⟨(k + 1, (k : Int)), ?_, ⟨hlt, .inr (by simp only; omega)⟩, by simp only; omega, fun r h => h⟩
              simp (disch := omega) [round_eq, wiS, encLp, Tryz.f89, lv89, q, hx, hy, hz, hi, hlt, hltI, hki, hkI, hkB, contains _ x.blocks hfit, hc, hle, hleI, hbn, hb0, hb2, hlz, hlzI, wrap_i64, -getElem?_pos, -List.contains_eq_mem]
            · have hlzI : ¬ ((x.blocks.length : Nat) : Int) < ((z.blocks.length : Nat) : Int) := by omega
              refine .inl ⟨(k + 1, best), ?_, ⟨hlt, j2⟩, by simp only; omega, fun r h => h⟩
              simp (disch := omega) [round_eq, wiS, encLp, Tryz.f89, lv89, q, hx, hy, hz, hi, hlt, hltI, hki, hkI, hkB, contains _ x.blocks hfit, hc, hle, hleI, hbn, hb0, hb2, hlz, hlzI, wrap_i64, -getElem?_pos, -List.contains_eq_mem]
      · have hc' : x.blocks.contains y.head = false := by simpa using hc
        refine .inl ⟨(k + 1, best), ?_, ⟨hlt, j2⟩, by simp only; omega, fun r h => h⟩
        simp (disch := omega) [round_eq, wiS, encLp, Tryz.f89, lv89, q, hx, hy, hi, hlt, hltI, hki, hkI, hkB, contains _ x.blocks hfit, hc', wrap_i64, -getElem?_pos, -List.contains_eq_mem]
  · have : k = ls.length := by omega
    subst this
    refine .inr ⟨(.exit 0, wiS h ls i ls.length best), ?_, nofun, best, rfl⟩
    simp (disch := omega) [round_eq, wiS, encLp, Tryz.f89, lv89, q, -getElem?_pos]

theorem within (h : Heap) (ls : List Lp) (hl : ls.length ≤ 100000) (hb : ∀ x, x ∈ ls → x.blocks.length ≤ 100000) (i : Nat) (hi : i < ls.length) :
    ∃ r : Int, CX 89 [Sl (lpsOf ls), I (i : Nat)] h = some (I r, h, []) := by
  obtain ⟨r, e⟩ := wi_loop h ls hl hb i hi
  refine ⟨r, CI_of Tryz.func89 rfl 0 ?_⟩
  have hk : cfg.keep 89 = 0 := rfl
  simp [wiS, lpK, lv89, Tryz.f89] at e
  simp (disch := omega) [Tryz.f89, lv89, hk, e, -getElem?_pos]
end Go.Proofs.YtdkknhpdjcdmfaaGreat.Abs

/- To which blocks each one goes, as the document tells it. -/
set_option linter.unusedSimpArgs false
set_option linter.unusedVariables false
namespace Go.Proofs.YtdkknhpdjcdmfaaGreat.Abs
open Go Go.RowKit Go.Proofs

def nxS (h : Heap) (xs : List Int) (i : Nat) (out : List Int) : St := ⟨[(7, I (i : Nat)), (6, Sl (intsOf xs)), (5, .one (.sl h.length 1 out.length 0 out.length))], h ++ [some (.row 1 (intsOf out))], []⟩
theorem nx_loop (h : Heap) (xs : List Int) (hx : Fit xs) :
    lpK 49 Tryz.f49 44 0 h (nxS h xs 0 []) = some (.exit 0, nxS h xs xs.length (xs.foldl addU [])) := by
  refine loop_list (P := Tryz.prog) (C := cfg) (sc := runScope Tryz.prog cfg 44 h.length (cfg.live 49) 0) (N := 44) (n0 := h.length) (K := cfg.live 49) (c := loopAt Tryz.f49 0) xs addU
    (fun i out => nxS h xs i out) (fun out => (.exit 0, nxS h xs xs.length out)) (fun i out => out.length ≤ i) ?_ ?_ [] (by simp)
  · intro i out x hd hl
    have hi := (List.getElem?_eq_some_iff.1 hd).1
    have hiI : ((i : Nat) : Int) < ((xs.length : Nat) : Int) := by omega
    have hxf : xs.length ≤ 17592186044416 := hx
    have hfa : Fit out := by show out.length ≤ 17592186044416; omega
    refine ⟨?_, by have := addU_len out x; omega⟩
    by_cases hc : out.contains x = true
    · have ha : addU out x = out := by rw [addU, if_pos hc]
      rw [ha]
      simp (disch := omega) [round_eq, nxS, Tryz.f49, lv49, hd, hi, hiI, wrap_i64, has _ out hfa, hc, -getElem?_pos, -List.contains_eq_mem]
    · have hc' : out.contains x = false := by simpa using hc
      have ha : addU out x = out ++ [x] := by rw [addU, if_neg hc]
      rw [ha]
      simp (disch := omega) [round_eq, nxS, Tryz.f49, lv49, hd, hi, hiI, wrap_i64, has _ out hfa, hc', room_of, intsOf_snoc, -getElem?_pos, -List.contains_eq_mem]
  · intro out hl
    refine ⟨?_, nofun⟩
    simp (disch := omega) [round_eq, nxS, Tryz.f49, lv49, -getElem?_pos]

/-- To which blocks one goes. -/
theorem next (h : Heap) (f : Fn) (hf : f.Ok) (he : Ended f) (k : Nat) (l : List Ins) (hl : f.blocks[k]? = some l) : CX 49 [.agg (encFn f), I (k : Nat)] h = some (Sl (intsOf (nextB l)), h, []) := by
  have q := qt49
  simp [Tryz.f49, quietFn, quietRegs] at q
  have hm := List.mem_of_getElem? hl
  have hne := he l hm
  have hlp : 0 < l.length := List.length_pos_iff.2 hne
  have hlf := hf.code l hm
  have hkl := (List.getElem?_eq_some_iff.1 hl).1
  have hb := hf.blocks
  obtain ⟨x, hx⟩ : ∃ x, l[l.length - 1]? = some x := ⟨_, List.getElem?_eq_getElem (by omega)⟩
  have hto : toB l = x.to := by unfold toB; rw [hx]
  have e := nx_loop (h ++ []) (toB l) (toB_ok hf hm)
  rw [List.append_nil, hto] at e
  have hnb : nextB l = x.to.foldl addU [] := by unfold nextB; rw [hto]
  rw [hnb]
  have hc : ((l.length : Int) - 1) = ((l.length - 1 : Nat) : Int) := by omega
  have hlt1 : l.length - 1 < l.length := by omega
  refine CI_of Tryz.func49 rfl 0 ?_
  have hk : cfg.keep 49 = 0 := rfl
  simp [nxS, lpK, lv49, Tryz.f49] at e
  simp (disch := omega) [Tryz.f49, lv49, hk, q, encFn, encIns, hl, hkl, hx, hc, hlt1, wrap_i64, e, -getElem?_pos]

def suO8 (h : Heap) (f : Fn) (k : Nat) (done : List (List Int)) : St := ⟨[(4, I (k : Nat)), (1, .one (.ptr h.length 1 0 0)), (3, .one (.sl (h.length + 1) 1 done.length 0 done.length))], h ++ [some (.row 5 [encFn f]), some (.row 1 (listsOf done))], []⟩
theorem listsOf_snoc' (ls : List (List Int)) (l : List Int) : listsOf ls ++ [[.isl (intsOf l)]] = listsOf (ls ++ [l]) := by simp [listsOf]
theorem su8_loop (h : Heap) (f : Fn) (hf : f.Ok) (he : Ended f) (hn : f.blocks.length ≤ 1000) :
    lpK 68 Tryz.f68 19 0 h (suO8 h f 0 []) = some (.exit 0, suO8 h f f.blocks.length (f.blocks.map nextB)) := by
  have key := loop_list (P := Tryz.prog) (C := cfg) (sc := runScope Tryz.prog cfg 19 h.length (cfg.live 68) 0) (N := 19) (n0 := h.length) (K := cfg.live 68) (c := loopAt Tryz.f68 0) f.blocks (fun done l => done ++ [nextB l])
    (fun i done => suO8 h f i done) (fun done => (.exit 0, suO8 h f f.blocks.length done)) (fun i done => done.length = i) ?_ ?_ [] rfl
  · have hfold : ∀ (ls : List (List Ins)) (d : List (List Int)), ls.foldl (fun done l => done ++ [nextB l]) d = d ++ ls.map nextB := by
      intro ls
      induction ls with
      | nil => intro d; simp
      | cons l ls ih => intro d; rw [List.foldl_cons, ih]; simp
    rw [hfold, List.nil_append] at key
    exact key
  · intro i done l hl hd
    subst hd
    have hi := (List.getElem?_eq_some_iff.1 hl).1
    have hiI : ((done.length : Nat) : Int) < ((f.blocks.length : Nat) : Int) := by omega
    refine ⟨?_, by simp⟩
    have e := next (h ++ [some (.row 5 [encFn f]), some (.row 1 (listsOf done))]) f hf he done.length l hl
    simp [encFn] at e
    simp (disch := omega) [round_eq, suO8, encFn, Tryz.f68, lv68, hi, hiI, e, wrap_i64, room_of, listsOf_snoc', -getElem?_pos]
  · intro done hd
    refine ⟨?_, nofun⟩
    simp (disch := omega) [round_eq, suO8, encFn, Tryz.f68, lv68, -getElem?_pos]
theorem succs8 (h : Heap) (f : Fn) (hf : f.Ok) (he : Ended f) (hn : f.blocks.length ≤ 1000) : CX 68 [.agg (encFn f)] h = some (Sl (listsOf (f.blocks.map nextB)), h, []) := by
  have e := su8_loop h f hf he hn
  refine CI_of Tryz.func68 rfl 0 ?_
  have hk : cfg.keep 68 = 0 := rfl
  simp [suO8, lpK, encFn, lv68, Tryz.f68] at e
  simp (disch := omega) [Tryz.f68, lv68, hk, encFn, e, -getElem?_pos]
end Go.Proofs.YtdkknhpdjcdmfaaGreat.Abs

/- Which blocks are reached from the first one, not by way of one, as the document tells it. -/
set_option linter.unusedSimpArgs false
set_option linter.unusedVariables false
namespace Go.Proofs.YtdkknhpdjcdmfaaGreat.Abs
open Go Go.RowKit Go.Proofs

/-- Of each number: is it one of some? -/
def metOf (n : Nat) (l : List Int) : List Bool := (List.range n).map fun v => l.contains ((v : Nat) : Int)
@[simp] theorem metOf_length (n : Nat) (l : List Int) : (metOf n l).length = n := by simp [metOf]
theorem metOf_mt {n : Nat} {l : List Int} {v : Nat} : Mt (metOf n l) v ↔ v < n ∧ (v : Int) ∈ l := by
  unfold Mt metOf
  rw [List.getElem?_map]
  rcases Nat.lt_or_ge v n with h | h
  · rw [List.getElem?_range h]; simp [h]
  · rw [List.getElem?_eq_none (by simpa using h)]; simp; omega
theorem metOf_snoc {n : Nat} {l : List Int} {b : Int} (hb : 0 ≤ b) : metOf n (l ++ [b]) = (metOf n l).set b.toNat true := by
  apply List.ext_getElem?
  intro v
  rw [List.getElem?_set]
  unfold metOf
  simp only [List.getElem?_map, List.length_map, List.length_range]
  rcases Nat.lt_or_ge v n with h | h
  · rw [List.getElem?_range h]
    by_cases e : b.toNat = v
    · rw [if_pos e, if_pos (by omega)]
      simp; right; omega
    · rw [if_neg e]
      simp
      intro hv; omega
  · rw [List.getElem?_eq_none (by simpa using h)]
    split
    · rw [if_neg (by omega)]; rfl
    · rfl
theorem metOf_next (l : List Int) (k : Nat) : metOf k l ++ [l.contains ((k : Nat) : Int)] = metOf (k + 1) l := by
  simp [metOf, List.range_succ]

def blV (id : Nat) : Option (List Bool) → V
  | none => .junk
  | some l => .one (.sl id 1 l.length 0 l.length)
def blO : Option (List Bool) → Option AO
  | none => none
  | some l => some (.row 1 (boolsOf l))
@[simp] theorem blV_none (id : Nat) : blV id none = .junk := rfl
@[simp] theorem blV_some (id : Nat) (l : List Bool) : blV id (some l) = .one (.sl id 1 l.length 0 l.length) := rfl
@[simp] theorem blO_none : blO none = none := rfl
@[simp] theorem blO_some (l : List Bool) : blO (some l) = some (.row 1 (boolsOf l)) := rfl
@[simp] theorem boolsOf_nil : boolsOf [] = [] := rfl
theorem boolsOf_snoc (bs : List Bool) (b : Bool) : boolsOf bs ++ [[.bool b]] = boolsOf (bs ++ [b]) := by simp [boolsOf]

def m9S (h : Heap) (f : Fn) (ss : List (List Int)) (but : Int) (l : List Int) (v8 v9 v1 v12 : V) (o11 : Option (List Bool)) : St :=
  ⟨[(2, I but), (7, .one (.sl h.length 1 l.length 0 l.length)), (8, v8), (9, v9), (1, v1), (12, v12), (3, .one (.ptr (h.length + 1) 1 0 0)), (11, blV (h.length + 2) o11), (1009, .junk), (1008, .junk)],
   h ++ [some (.row 1 (intsOf l)), some (.row 5 [encFn f]), blO o11], []⟩

section
variable (h : Heap) (f : Fn) (ss : List (List Int)) (but : Int) (hE : ss.length ≤ 1000) (hEl : ∀ l, l ∈ ss → l.length ≤ 100000 ∧ ∀ x, x ∈ l → 0 ≤ x ∧ x < ss.length)
include hE hEl

/-- All to which one block goes. -/
theorem m9_in (i : Nat) (es : List Int) (k : Nat) (hk : ss[k]? = some es) (hRk : Rch ss [0] but k) (l : List Int) (hlk : l[i]? = some (k : Int))
    (g1 : RI ss.length ss [0] but (metOf ss.length l) (fun v => v = k ∨ (v : Int) ∈ l.drop (i + 1))) (g3 : OpOK ss [0] but l) (g4 : l.length + unmet (metOf ss.length l) ≤ ss.length) :
    ∃ l', i < l'.length ∧ RI ss.length ss [0] but (metOf ss.length l') (fun v => (v : Int) ∈ l'.drop (i + 1)) ∧ OpOK ss [0] but l' ∧ l'.length + unmet (metOf ss.length l') ≤ ss.length ∧ (∀ x, x ∈ l → x ∈ l') ∧
    lpK 69 Tryz.f69 73 1 h (m9S h f ss but l (I (i : Nat)) (I (0 : Nat)) (Sl (listsOf ss)) .junk none) = some (.exit 2, m9S h f ss but l' (I (i : Nat)) (I (es.length : Nat)) (Sl (listsOf ss)) .junk none) := by
  obtain ⟨hes, heb⟩ := hEl es (List.mem_of_getElem? hk)
  have hgd : ss.getD k [] = es := by rw [List.getD, hk]; rfl
  have hkl := (List.getElem?_eq_some_iff.1 hk).1
  have key := loop_rel (P := Tryz.prog) (C := cfg) (sc := runScope Tryz.prog cfg 73 h.length (cfg.live 69) 0) (N := 73) (n0 := h.length) (K := cfg.live 69) (c := loopAt Tryz.f69 1)
    (fun s : Nat × List Int => m9S h f ss but s.2 (I (i : Nat)) (I (s.1 : Nat)) (Sl (listsOf ss)) .junk none)
    (fun s => s.1 ≤ es.length ∧ s.2[i]? = some (k : Int) ∧ RI ss.length ss [0] but (metOf ss.length s.2) (fun v => v = k ∨ (v : Int) ∈ s.2.drop (i + 1)) ∧ OpOK ss [0] but s.2 ∧ s.2.length + unmet (metOf ss.length s.2) ≤ ss.length ∧ (∀ (t : Nat) w, es[t]? = some w → t < s.1 → w ≠ but → Mt (metOf ss.length s.2) w.toNat) ∧ ∀ x, x ∈ l → x ∈ s.2) (fun s => es.length - s.1)
    (fun s r => ∃ l', i < l'.length ∧ RI ss.length ss [0] but (metOf ss.length l') (fun v => (v : Int) ∈ l'.drop (i + 1)) ∧ OpOK ss [0] but l' ∧ l'.length + unmet (metOf ss.length l') ≤ ss.length ∧ (∀ x, x ∈ l → x ∈ l') ∧
      r = (.exit 2, m9S h f ss but l' (I (i : Nat)) (I (es.length : Nat)) (Sl (listsOf ss)) .junk none)) ?_ (0, l) ⟨Nat.zero_le _, hlk, g1, g3, g4, fun t w _ ht => by simp only at ht; omega, fun x hx => hx⟩
  · obtain ⟨r, h1, l', h2, h3, h4, h5, h6, rfl⟩ := key
    exact ⟨l', h2, h3, h4, h5, h6, h1⟩
  clear g1 g3 g4
  rintro ⟨p, m⟩ ⟨j1, j2, j3, j4, j5, j6, j7⟩
  simp only at j1 j2 j3 j4 j5 j6 j7 ⊢
  have hil := (List.getElem?_eq_some_iff.1 j2).1
  have hmf : Fit m := by show m.length ≤ _; omega
  rcases Nat.lt_or_ge p es.length with hlt | hge
  · have hltI : ((p : Nat) : Int) < ((es.length : Nat) : Int) := by omega
    obtain ⟨x, hx⟩ : ∃ x, es[p]? = some x := ⟨_, List.getElem?_eq_getElem hlt⟩
    have hxm := List.mem_of_getElem? hx
    obtain ⟨x0, xl⟩ := heb x hxm
    have xln : x.toNat < ss.length := by omega
    by_cases hb : x = but
    · have hbI : (x != but) = false := by simp [hb]
      refine .inl ⟨(p + 1, m), ?_, ⟨hlt, j2, j3, j4, j5, fun t w hw ht hn => ?_, j7⟩, by simp only; omega, fun r h => h⟩
      · simp (disch := omega) [round_eq, m9S, encFn, Tryz.f69, lv69, j2, hil, hk, hkl, hx, hlt, hltI, hbI, hb, wrap_i64, -getElem?_pos]
      · rcases Nat.lt_or_ge t p with hji | hji
        · exact j6 t w hw hji hn
        · have : t = p := by simp only at ht; omega
          subst this
          rw [hx] at hw; cases hw
          exact absurd hb hn
    · have hbI : (x != but) = true := by simp [hb]
      by_cases hc : m.contains x = true
      · refine .inl ⟨(p + 1, m), ?_, ⟨hlt, j2, j3, j4, j5, fun t w hw ht hn => ?_, j7⟩, by simp only; omega, fun r h => h⟩
        · simp (disch := omega) [round_eq, m9S, encFn, Tryz.f69, lv69, j2, hil, hk, hkl, hx, hlt, hltI, hbI, has _ m hmf, hc, wrap_i64, -getElem?_pos, -List.contains_eq_mem]
        · rcases Nat.lt_or_ge t p with hji | hji
          · exact j6 t w hw hji hn
          · have : t = p := by simp only at ht; omega
            subst this
            rw [hx] at hw; cases hw
            refine metOf_mt.2 ⟨xln, ?_⟩
            rw [Int.toNat_of_nonneg x0]
            simpa using hc
      · have hc' : m.contains x = false := by simpa using hc
        have hxn : x ∉ m := by simpa using hc
        have hnm : ¬ Mt (metOf ss.length m) x.toNat := fun h' => by
          have := (metOf_mt.1 h').2
          rw [Int.toNat_of_nonneg x0] at this
          exact hxn this
        have hun := unmet_set' (met := metOf ss.length m) (by simpa using xln) hnm
        have hrx : Rch ss [0] but x.toNat := .step hRk (by rw [Int.toNat_of_nonneg x0, hgd]; exact hxm) (by rw [Int.toNat_of_nonneg x0]; exact hb)
        have hset := j3.set xln hrx
        rw [← metOf_snoc x0] at hset hun
        have hmt : ∀ v, Mt (metOf ss.length m) v → Mt (metOf ss.length (m ++ [x])) v := fun v hv => by
          rw [metOf_mt] at hv ⊢; exact ⟨hv.1, by simp [hv.2]⟩
        have hdrop : (m ++ [x]).drop (i + 1) = m.drop (i + 1) ++ [x] := List.drop_append_of_le_length (by omega)
        refine .inl ⟨(p + 1, m ++ [x]), ?_, ⟨hlt, ?_, hset.mono fun v hv => .inl ?_, fun z hz => ?_, ?_, fun t w hw ht hn => ?_, fun z hz => by simp [j7 z hz]⟩, by simp only; omega, fun r h => h⟩
        · simp (disch := omega) [round_eq, m9S, encFn, Tryz.f69, lv69, j2, hil, hk, hkl, hx, hlt, hltI, hbI, has _ m hmf, hc', room_of, intsOf_snoc, wrap_i64, -getElem?_pos, -List.contains_eq_mem]
        · simp only; rw [List.getElem?_append_left hil]; exact j2
        · rcases hv with (hv | hv) | rfl
          · exact .inl hv
          · exact .inr (by rw [hdrop]; simp [hv])
          · exact .inr (by rw [hdrop]; simp; right; omega)
        · rcases List.mem_append.1 hz with hz | hz
          · exact j4 z hz
          · rw [List.mem_singleton.1 hz]; exact ⟨x0, xl, hrx⟩
        · simp only [List.length_append, List.length_cons, List.length_nil]; omega
        · rcases Nat.lt_or_ge t p with hji | hji
          · exact hmt _ (j6 t w hw hji hn)
          · have : t = p := by simp only at ht; omega
            subst this
            rw [hx] at hw; cases hw
            refine metOf_mt.2 ⟨xln, ?_⟩
            rw [Int.toNat_of_nonneg x0]
            simp
  · have : p = es.length := by omega
    subst this
    refine .inr ⟨(.exit 2, m9S h f ss but m (I (i : Nat)) (I (es.length : Nat)) (Sl (listsOf ss)) .junk none), ?_, nofun, m, hil, j3.mono fun v hv => ?_, j4, j5, j7, rfl⟩
    · simp (disch := omega) [round_eq, m9S, encFn, Tryz.f69, lv69, j2, hil, hk, hkl, -getElem?_pos]
    · rcases hv with hv | hv
      · subst hv
        refine .inr fun w hw hn => ?_
        rw [hgd] at hw
        obtain ⟨t, ht⟩ := List.getElem?_of_mem hw
        exact j6 t w ht (List.getElem?_eq_some_iff.1 ht).1 hn
      · exact .inl hv

/-- From one to the next one, till no more comes. -/
theorem m9_out (l : List Int) (g1 : RI ss.length ss [0] but (metOf ss.length l) (fun v => (v : Int) ∈ l)) (g2 : ∀ x, x ∈ [(0 : Int)] → x ≠ but → x ∈ l) (g3 : OpOK ss [0] but l) (g4 : l.length + unmet (metOf ss.length l) ≤ ss.length) :
    ∃ l', (∀ v, Mt (metOf ss.length l') v ↔ Rch ss [0] but v) ∧ l'.length ≤ ss.length ∧
    lpK 69 Tryz.f69 73 0 h (m9S h f ss but l (I (0 : Nat)) .junk (Sl (listsOf ss)) .junk none) = some (.exit 0, m9S h f ss but l' (I (l'.length : Nat)) .junk (Sl (listsOf ss)) .junk none) := by
  have key := loop_rel (P := Tryz.prog) (C := cfg) (sc := runScope Tryz.prog cfg 73 h.length (cfg.live 69) 0) (N := 73) (n0 := h.length) (K := cfg.live 69) (c := loopAt Tryz.f69 0)
    (fun s : Nat × List Int => m9S h f ss but s.2 (I (s.1 : Nat)) .junk (Sl (listsOf ss)) .junk none)
    (fun s => s.1 ≤ s.2.length ∧ RI ss.length ss [0] but (metOf ss.length s.2) (fun v => (v : Int) ∈ s.2.drop s.1) ∧ (∀ x, x ∈ [(0 : Int)] → x ≠ but → x ∈ s.2) ∧ OpOK ss [0] but s.2 ∧ s.2.length + unmet (metOf ss.length s.2) ≤ ss.length) (fun s => ss.length - s.1)
    (fun s r => ∃ l', (∀ v, Mt (metOf ss.length l') v ↔ Rch ss [0] but v) ∧ l'.length ≤ ss.length ∧ r = (.exit 0, m9S h f ss but l' (I (l'.length : Nat)) .junk (Sl (listsOf ss)) .junk none)) ?_ (0, l) ⟨Nat.zero_le _, g1, g2, g3, g4⟩
  · obtain ⟨r, h1, l', h2, h3, rfl⟩ := key
    exact ⟨l', h2, h3, h1⟩
  clear g1 g2 g3 g4 l
  rintro ⟨i, l⟩ ⟨j1, j2, j3, j4, j5⟩
  simp only at j1 j2 j3 j4 j5 ⊢
  rcases Nat.lt_or_ge i l.length with hlt | hge
  · have hltI : ((i : Nat) : Int) < ((l.length : Nat) : Int) := by omega
    obtain ⟨x, hx⟩ : ∃ x, l[i]? = some x := ⟨_, List.getElem?_eq_getElem hlt⟩
    obtain ⟨x0, xl, hrx⟩ := j4 x (List.mem_of_getElem? hx)
    obtain ⟨k, rfl⟩ : ∃ k : Nat, x = (k : Int) := ⟨x.toNat, by omega⟩
    rw [Int.toNat_natCast] at hrx
    have hkl : k < ss.length := by omega
    obtain ⟨es, hes⟩ : ∃ es, ss[k]? = some es := ⟨_, List.getElem?_eq_getElem hkl⟩
    have hesl := (hEl es (List.mem_of_getElem? hes)).1
    have hdr : l.drop i = (k : Int) :: l.drop (i + 1) := by
      rw [List.drop_eq_getElem_cons hlt]; rw [List.getElem?_eq_getElem hlt] at hx; injection hx with hx; rw [hx]
    obtain ⟨l', k1, k2, k3, k4, k5, e⟩ := m9_in h f ss but hE hEl i es k hes hrx l hx (j2.mono fun v hv => .inl (by
      rw [hdr] at hv
      rcases List.mem_cons.1 hv with hv | hv
      · exact .inl (by omega)
      · exact .inr hv)) j4 j5
    refine .inl ⟨(i + 1, l'), ?_, ⟨k1, k2, fun x hx hn => k5 x (j3 x hx hn), k3, k4⟩, by simp only; omega, fun r h => h⟩
    simp [m9S, encFn, lpK, lv69, Tryz.f69] at e
    simp (disch := omega) [round_eq, m9S, encFn, Tryz.f69, lv69, hx, hlt, hltI, e, wrap_i64, -getElem?_pos]
  · have : i = l.length := by omega
    subst this
    refine .inr ⟨(.exit 0, m9S h f ss but l (I (l.length : Nat)) .junk (Sl (listsOf ss)) .junk none), ?_, nofun, l, RI.all (j2.mono fun v hv => by simp at hv) (fun x hx hn => ?_), by omega, rfl⟩
    · simp (disch := omega) [round_eq, m9S, encFn, Tryz.f69, lv69, -getElem?_pos]
    · have h0 : x = 0 := by simpa using hx
      subst h0
      have := j3 0 hx hn
      have hb := j4 0 this
      exact metOf_mt.2 ⟨by omega, this⟩
end

theorem m9_last (h : Heap) (f : Fn) (hn : f.blocks.length ≤ 1000) (ss : List (List Int)) (but : Int) (l : List Int) (hl : l.length ≤ 1000) :
    lpK 69 Tryz.f69 73 2 h (m9S h f ss but l .junk .junk (Sl (listsOf ss)) (I (0 : Nat)) (some [])) = some (.exit 4, m9S h f ss but l .junk .junk (Sl (listsOf ss)) (I (f.blocks.length : Nat)) (some (metOf f.blocks.length l))) := by
  have hlf : Fit l := by show l.length ≤ _; omega
  have key := loop_fun (P := Tryz.prog) (C := cfg) (sc := runScope Tryz.prog cfg 73 h.length (cfg.live 69) 0) (N := 73) (n0 := h.length) (K := cfg.live 69) (c := loopAt Tryz.f69 2)
    (fun k : Nat => m9S h f ss but l .junk .junk (Sl (listsOf ss)) (I (k : Nat)) (some (metOf k l))) (fun k => k ≤ f.blocks.length) (fun k => f.blocks.length - k)
    (fun _ => (.exit 4, m9S h f ss but l .junk .junk (Sl (listsOf ss)) (I (f.blocks.length : Nat)) (some (metOf f.blocks.length l)))) ?_ 0 (Nat.zero_le _)
  · exact key
  intro k hk
  rcases Nat.lt_or_ge k f.blocks.length with hlt | hge
  · have hltI : ((k : Nat) : Int) < ((f.blocks.length : Nat) : Int) := by omega
    refine .inl ⟨k + 1, ?_, hlt, by omega, rfl⟩
    simp (disch := omega) [round_eq, m9S, encFn, Tryz.f69, lv69, hlt, hltI, has _ l hlf, room_of, boolsOf_snoc, metOf_next, wrap_i64, -getElem?_pos, -List.contains_eq_mem]
  · have : k = f.blocks.length := by omega
    subst this
    refine .inr ⟨?_, nofun⟩
    simp (disch := omega) [round_eq, m9S, encFn, Tryz.f69, lv69, -getElem?_pos]

/-- Which blocks are reached, not by way of one. -/
theorem met9 (h : Heap) (f : Fn) (ss : List (List Int)) (hs : ss.length = f.blocks.length) (h0 : 0 < ss.length) (but : Int) (hE : ss.length ≤ 1000) (hEl : ∀ l, l ∈ ss → l.length ≤ 100000 ∧ ∀ x, x ∈ l → 0 ≤ x ∧ x < ss.length) :
    ∃ m : List Bool, m.length = ss.length ∧ (∀ v, Mt m v ↔ Rch ss [0] but v) ∧ CX 69 [.agg (encFn f), Sl (listsOf ss), I but] h = some (Sl (boolsOf m), h, []) := by
  have hk : cfg.keep 69 = 0 := rfl
  by_cases hb : but = 0
  · obtain ⟨l', g1, g2, e1⟩ := m9_out h f ss but hE hEl [] ⟨by simp, fun v hv => by have := (metOf_mt.1 hv).2; simp at this, fun v hv => by have := (metOf_mt.1 hv).2; simp at this⟩ (fun x hx hn => by simp at hx; omega) (fun x hx => by simp at hx) (by
      have : unmet (metOf ss.length []) = ss.length := by
        have : metOf ss.length [] = List.replicate ss.length false := by
          apply List.ext_getElem?; intro i; simp [metOf]; simp [List.getElem?_replicate]; rcases Nat.lt_or_ge i ss.length with h | h <;> simp [h, Nat.not_lt.2]
        rw [this, unmet_all]
      simp; omega)
    have e2 := m9_last h f (by omega) ss but l' (by omega)
    refine ⟨metOf ss.length l', by simp, g1, CI_of Tryz.func69 rfl 0 ?_⟩
    subst hb
    rw [hs]
    simp [m9S, encFn, lpK, lv69, Tryz.f69] at e1 e2
    simp (disch := omega) [Tryz.f69, lv69, hk, encFn, e1, e2, wrap_i64, -getElem?_pos]
  · have hbI : (but != 0) = true := by simp [hb]
    have hr0 : Rch ss [0] but 0 := .start (by simp) (by omega)
    have hm0 : ∀ v : Nat, Mt (metOf ss.length [0]) v → v = 0 := fun v hv => by have := (metOf_mt.1 hv).2; simp at this; omega
    obtain ⟨l', g1, g2, e1⟩ := m9_out h f ss but hE hEl [0] ⟨by simp, fun v hv => by rw [hm0 v hv]; exact hr0, fun v hv => .inl (by rw [hm0 v hv]; simp)⟩ (fun x hx hn => hx) (fun x hx => by
        have : x = 0 := by simpa using hx
        subst this
        exact ⟨by omega, by omega, hr0⟩) (by
      have h1 : metOf ss.length [] = List.replicate ss.length false := by
        apply List.ext_getElem?; intro i; simp [metOf]; simp [List.getElem?_replicate]; rcases Nat.lt_or_ge i ss.length with h | h <;> simp [h, Nat.not_lt.2]
      have h2 := metOf_snoc (n := ss.length) (l := []) (b := 0) (by omega)
      have h3 := unmet_set (met := metOf ss.length []) (v := 0) (by rw [h1, List.getElem?_replicate, if_pos h0])
      rw [List.nil_append] at h2
      have h2' : metOf ss.length [0] = (metOf ss.length []).set 0 true := h2
      rw [← h2', h1, unmet_all] at h3
      simp only [List.length_cons, List.length_nil]
      omega)
    have e2 := m9_last h f (by omega) ss but l' (by omega)
    refine ⟨metOf ss.length l', by simp, g1, CI_of Tryz.func69 rfl 0 ?_⟩
    rw [hs]
    have hz : intsOf [0] = ([[Leaf.int .i64 0]] : List (List Leaf)) := rfl
    simp [m9S, encFn, lpK, lv69, Tryz.f69, hz] at e1 e2
    simp (disch := omega) [Tryz.f69, lv69, hk, encFn, hb, hbI, e1, e2, wrap_i64, room_of, -getElem?_pos]
end Go.Proofs.YtdkknhpdjcdmfaaGreat.Abs

/- Which blocks stand ahead of which, as the document tells it. -/
set_option linter.unusedSimpArgs false
set_option linter.unusedVariables false
namespace Go.Proofs.YtdkknhpdjcdmfaaGreat.Abs
open Go Go.RowKit Go.Proofs

def tabOf (rows : List (List Bool)) : List (List Leaf) := rows.map fun r => [.isl (boolsOf r)]
@[simp] theorem tabOf_length (rows : List (List Bool)) : (tabOf rows).length = rows.length := by simp [tabOf]
@[simp] theorem tabOf_nil : tabOf [] = [] := rfl
@[simp] theorem tabOf_get (rows : List (List Bool)) (i : Nat) : (tabOf rows)[i]? = (rows[i]?).map fun r => [.isl (boolsOf r)] := by simp [tabOf]
@[simp] theorem tabOf_plain (rows : List (List Bool)) : plainR (tabOf rows) = true := plainR_map (fun _ => rfl) rows
@[simp] theorem tabOf_tree (rows : List (List Bool)) : treeR (tabOf rows) = true := treeR_map (fun _ => rfl) rows
@[simp] theorem tabOf_sized (rows : List (List Bool)) : sized 1 (tabOf rows) = true := sized_map (n := 1) (f := fun r : List Bool => [Leaf.isl (boolsOf r)]) (fun _ => rfl) rows
theorem tabOf_snoc (rows : List (List Bool)) (r : List Bool) : tabOf rows ++ [[.isl (boolsOf r)]] = tabOf (rows ++ [r]) := by simp [tabOf]

def cellT (all wo : List Bool) (a b : Nat) : Bool := all.getD a false && (all.getD b false && (decide (a = b) || !(wo.getD b false)))
def rowT (all wo : List Bool) (a k : Nat) : List Bool := (List.range k).map (cellT all wo a)
@[simp] theorem rowT_length (all wo : List Bool) (a k : Nat) : (rowT all wo a k).length = k := by simp [rowT]
theorem rowT_next (all wo : List Bool) (a k : Nat) : rowT all wo a (k + 1) = rowT all wo a k ++ [cellT all wo a k] := by simp [rowT, List.range_succ]

def tbS (h : Heap) (f : Fn) (ss : List (List Int)) (all : List Bool) (a : Nat) (v9 : V) (o8 : Option (List Bool)) (v7 : V) (rows : List (List Bool)) : St :=
  ⟨[(1, .one (.ptr h.length 1 0 0)), (3, Sl (listsOf ss)), (6, I (a : Nat)), (9, v9), (8, blV (h.length + 1) o8), (4, Sl (boolsOf all)), (7, v7), (5, .one (.sl (h.length + 2) 1 rows.length 0 rows.length)), (1008, .junk), (1009, .junk), (1007, .junk)],
   h ++ [some (.row 5 [encFn f]), blO o8, some (.row 1 (tabOf rows))], []⟩

theorem tb_in (h : Heap) (f : Fn) (hn : f.blocks.length ≤ 1000) (ss : List (List Int)) (all wo : List Bool) (hal : all.length = f.blocks.length) (hwl : wo.length = f.blocks.length) (a : Nat) (ha : a < f.blocks.length) (rows : List (List Bool)) (hr : rows.length ≤ 1000) :
    lpK 23 Tryz.f23 63 1 h (tbS h f ss all a (I (0 : Nat)) (some []) (Sl (boolsOf wo)) rows) = some (.exit 2, tbS h f ss all a (I (f.blocks.length : Nat)) (some (rowT all wo a f.blocks.length)) (Sl (boolsOf wo)) rows) := by
  have key := loop_fun (P := Tryz.prog) (C := cfg) (sc := runScope Tryz.prog cfg 63 h.length (cfg.live 23) 0) (N := 63) (n0 := h.length) (K := cfg.live 23) (c := loopAt Tryz.f23 1)
    (fun k : Nat => tbS h f ss all a (I (k : Nat)) (some (rowT all wo a k)) (Sl (boolsOf wo)) rows) (fun k => k ≤ f.blocks.length) (fun k => f.blocks.length - k)
    (fun _ => (.exit 2, tbS h f ss all a (I (f.blocks.length : Nat)) (some (rowT all wo a f.blocks.length)) (Sl (boolsOf wo)) rows)) ?_ 0 (Nat.zero_le _)
  · exact key
  intro k hk
  obtain ⟨xa, hxa⟩ : ∃ x, all[a]? = some x := ⟨_, List.getElem?_eq_getElem (by omega)⟩
  rcases Nat.lt_or_ge k f.blocks.length with hlt | hge
  · have hltI : ((k : Nat) : Int) < ((f.blocks.length : Nat) : Int) := by omega
    obtain ⟨xb, hxb⟩ : ∃ x, all[k]? = some x := ⟨_, List.getElem?_eq_getElem (by omega)⟩
    obtain ⟨xw, hxw⟩ : ∃ x, wo[k]? = some x := ⟨_, List.getElem?_eq_getElem (by omega)⟩
    have hcell : cellT all wo a k = (xa && (xb && (decide (a = k) || !xw))) := by unfold cellT; simp only [List.getD, hxa, hxb, hxw, Option.getD_some]
    refine .inl ⟨k + 1, ?_, hlt, by omega, rfl⟩
    rw [rowT_next, hcell]
    by_cases hak : a = k
    · subst hak
      rw [hxa] at hxb; cases hxb
      cases xa <;> simp (disch := omega) [round_eq, tbS, encFn, Tryz.f23, lv23, hlt, hltI, hxa, hal, hwl, ha, room_of, boolsOf_snoc, wrap_i64, -getElem?_pos]
    · have hakI : (((a : Nat) : Int) == ((k : Nat) : Int)) = false := by simp; omega
      cases xa <;> cases xb <;> cases xw <;> simp (disch := omega) [round_eq, tbS, encFn, Tryz.f23, lv23, hlt, hltI, hxa, hxb, hxw, hal, hwl, ha, hak, hakI, room_of, boolsOf_snoc, wrap_i64, -getElem?_pos]
  · have : k = f.blocks.length := by omega
    subst this
    refine .inr ⟨?_, nofun⟩
    simp (disch := omega) [round_eq, tbS, encFn, Tryz.f23, lv23, -getElem?_pos]

/-- Rows so far. -/
def TRows (n : Nat) (ss : List (List Int)) (all : List Bool) (rows : List (List Bool)) : Prop :=
  ∀ (a : Nat) r, rows[a]? = some r → ∃ wo : List Bool, r = rowT all wo a n ∧ wo.length = n ∧ ∀ v, Mt wo v ↔ Rch ss [0] (a : Int) v

theorem tb_out (h : Heap) (f : Fn) (hn : f.blocks.length ≤ 1000) (ss : List (List Int)) (hs : ss.length = f.blocks.length) (h0 : 0 < ss.length) (hEl : ∀ l, l ∈ ss → l.length ≤ 100000 ∧ ∀ x, x ∈ l → 0 ≤ x ∧ x < ss.length) (all : List Bool) (hal : all.length = f.blocks.length) :
    ∃ rows, rows.length = f.blocks.length ∧ TRows f.blocks.length ss all rows ∧
    lpK 23 Tryz.f23 63 0 h (tbS h f ss all 0 .junk none .junk []) = some (.exit 0, tbS h f ss all f.blocks.length .junk none .junk rows) := by
  have key := loop_rel (P := Tryz.prog) (C := cfg) (sc := runScope Tryz.prog cfg 63 h.length (cfg.live 23) 0) (N := 63) (n0 := h.length) (K := cfg.live 23) (c := loopAt Tryz.f23 0)
    (fun rows : List (List Bool) => tbS h f ss all rows.length .junk none .junk rows) (fun rows => rows.length ≤ f.blocks.length ∧ TRows f.blocks.length ss all rows) (fun rows => f.blocks.length - rows.length)
    (fun _ r => ∃ rows, rows.length = f.blocks.length ∧ TRows f.blocks.length ss all rows ∧ r = (.exit 0, tbS h f ss all f.blocks.length .junk none .junk rows)) ?_ [] ⟨Nat.zero_le _, fun a r h => by simp at h⟩
  · obtain ⟨r, h1, rows, h2, h3, rfl⟩ := key
    exact ⟨rows, h2, h3, h1⟩
  rintro rows ⟨j1, j2⟩
  rcases Nat.lt_or_ge rows.length f.blocks.length with hlt | hge
  · have hltI : ((rows.length : Nat) : Int) < ((f.blocks.length : Nat) : Int) := by omega
    obtain ⟨wo, w1, w2, e1⟩ := met9 (h ++ [some (.row 5 [encFn f]), none, some (.row 1 (tabOf rows))]) f ss hs h0 (rows.length : Int) (by omega) hEl
    have e2 := tb_in h f hn ss all wo hal (by omega) rows.length hlt rows (by omega)
    refine .inl ⟨rows ++ [rowT all wo rows.length f.blocks.length], ?_, ⟨by simp; omega, fun a r hr => ?_⟩, by simp; omega, fun r h => h⟩
    · simp [encFn] at e1
      simp [tbS, encFn, lpK, lv23, Tryz.f23] at e2
      simp (disch := (first | omega | simp (disch := omega) [])) [round_eq, tbS, encFn, Tryz.f23, lv23, hlt, hltI, e1, e2, room_of, tabOf_snoc, wrap_i64, -getElem?_pos]
    · rcases Nat.lt_or_ge a rows.length with ha | ha
      · rw [List.getElem?_append_left ha] at hr
        exact j2 a r hr
      · have hal := (List.getElem?_eq_some_iff.1 hr).1
        simp at hal
        obtain rfl : a = rows.length := by omega
        simp at hr
        exact ⟨wo, hr.symm, by omega, w2⟩
  · have : rows.length = f.blocks.length := by omega
    refine .inr ⟨(.exit 0, tbS h f ss all f.blocks.length .junk none .junk rows), ?_, nofun, rows, this, j2, rfl⟩
    rw [this]
    simp (disch := omega) [round_eq, tbS, encFn, Tryz.f23, lv23, this, -getElem?_pos]

/-- What the table tells. -/
def TabG (n : Nat) (ss : List (List Int)) (rows : List (List Bool)) : Prop :=
  rows.length = n ∧ ∀ a, a < n → ∃ r, rows[a]? = some r ∧ r.length = n ∧ ∀ b, b < n → ∃ x, r[b]? = some x ∧ (x = true ↔ Rch ss [0] (-1) a ∧ Rch ss [0] (-1) b ∧ (a = b ∨ ¬ Rch ss [0] (a : Int) b))

theorem table (h : Heap) (f : Fn) (hf : f.Fine) (hn0 : 0 < f.blocks.length) : ∃ rows, TabG f.blocks.length (f.blocks.map nextB) rows ∧ CX 23 [.agg (encFn f)] h = some (Sl (tabOf rows), h, []) := by
  have hb := hf.len
  have hs : (f.blocks.map nextB).length = f.blocks.length := by simp
  have hEl : ∀ l, l ∈ f.blocks.map nextB → l.length ≤ 100000 ∧ ∀ x, x ∈ l → 0 ≤ x ∧ x < (f.blocks.map nextB).length := fun l hl => by
    have := hf.edges.each l hl
    exact ⟨by omega, this.2⟩
  have e1 := fun h => succs8 h f hf.ok hf.ended hb
  obtain ⟨all, a1, a2, e2⟩ := met9 (h ++ [some (.row 5 [encFn f])]) f (f.blocks.map nextB) hs (by omega) (-1) (by omega) hEl
  obtain ⟨rows, r1, r2, e3⟩ := tb_out h f hb (f.blocks.map nextB) hs (by omega) hEl all (by omega)
  refine ⟨rows, ⟨r1, fun a ha => ?_⟩, CI_of Tryz.func23 rfl 0 ?_⟩
  · obtain ⟨r, hr⟩ : ∃ r, rows[a]? = some r := ⟨_, List.getElem?_eq_getElem (by omega)⟩
    obtain ⟨wo, rfl, w1, w2⟩ := r2 a r hr
    refine ⟨_, hr, by simp, fun b hbn => ⟨cellT all wo a b, by simp [rowT, List.getElem?_range hbn], ?_⟩⟩
    have gD : ∀ (m : List Bool) (v : Nat), m.getD v false = true ↔ Mt m v := by
      intro m v
      unfold Mt
      rw [List.getD]
      cases m[v]? with
      | none => simp
      | some x => simp
    unfold cellT
    rw [Bool.and_eq_true, Bool.and_eq_true, gD, gD, a2, a2, Bool.or_eq_true, decide_eq_true_iff, Bool.not_eq_true', ← Bool.not_eq_true, gD, w2]
  · have hk : cfg.keep 23 = 0 := rfl
    simp [encFn] at e1 e2
    simp [tbS, encFn, lpK, lv23, Tryz.f23] at e3
    simp (disch := omega) [Tryz.f23, lv23, hk, encFn, e1, e2, e3, -getElem?_pos]

/-- Does a block stand ahead of another one, by the table? -/
theorem ahead9 (h : Heap) (rows : List (List Bool)) (hrl : rows.length ≤ 1000) (a b : Nat) (r : List Bool) (x : Bool) (hr : rows[a]? = some r) (hx : r[b]? = some x) (hl : r.length = rows.length) : CX 50 [Sl (tabOf rows), I (a : Nat), I (b : Nat)] h = some (Bo x, h, []) := by
  have ha := (List.getElem?_eq_some_iff.1 hr).1
  have hb := (List.getElem?_eq_some_iff.1 hx).1
  have haI : ¬ ((rows.length : Nat) : Int) ≤ ((a : Nat) : Int) := by omega
  have hbI : ¬ ((rows.length : Nat) : Int) ≤ ((b : Nat) : Int) := by omega
  have haN : ¬ rows.length ≤ a := by omega
  have hbN : ¬ rows.length ≤ b := by omega
  have hbl : b < rows.length := by omega
  have ha0 : ¬ ((a : Nat) : Int) < 0 := by omega
  have hb0 : ¬ ((b : Nat) : Int) < 0 := by omega
  refine CI_of Tryz.func50 rfl 0 ?_
  have hk : cfg.keep 50 = 0 := rfl
  simp (disch := omega) [Tryz.f50, hk, hr, hx, ha, hb, ha0, hb0, hl, hbl, haI, hbI, haN, hbN, -getElem?_pos]
end Go.Proofs.YtdkknhpdjcdmfaaGreat.Abs
