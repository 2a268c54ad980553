/- The abstract machine: each step of a region that draws its order, and on what it hangs. -/
import Derived.Test.YtkbdhjfjbkmkcaaGreatJT21
set_option linter.unusedSimpArgs false
set_option linter.unusedVariables false
namespace Go.Proofs.YtkbdhjfjbkmkcaaGreat.Abs
open Go Go.RowKit

structure Step where
  o : Oper
  T : Tmps
  h : Heap
  v : V
  want : Bool
  eff : Eff
  r : Rec
  D : Nat → Prop
  shape : Option (Nat × Nat × Nat × Nat)

structure StepCore (P : Program) (cf : CF) (st : Step) : Prop where
  eval : st.want = true → ∀ T' H, H.length = st.h.length → (∀ x, x ∈ st.o.op.operands.toList → ev T' x = ev st.T x) → (∀ id, st.D id → H[id]? = st.h[id]?) →
    (∀ id sz e n, st.shape = some (id, sz, e, n) → Shape H id sz e n) → ∃ slot ws, absOp P cf slot T' H st.o = some (st.v, appE st.eff 0 H, ws)
  shapeOK : ∀ id sz e n, st.shape = some (id, sz, e, n) → Shape st.h id sz e n
  off : ∀ id, id ∉ st.r.touched → ∀ o, st.eff id o = o
  kind : (∀ id, id ∈ st.r.touched → ∀ a b, st.eff id a = st.eff id b) ∨ ∃ id e off new, st.eff = cellE id e off new
  cellk : ∀ id e off n, st.r.cell = some (id, e, off, n) → ∃ new, new.length = n ∧ st.eff = cellE id e off new
  cellD : st.r.cell ≠ none → ∀ id, ¬ st.D id
  dread : ∀ id, st.D id → (st.r.call = false → id ∈ st.r.reads ∨ id ∈ st.r.touched) ∧ (st.r.call = true → id ∉ st.r.holes)
  shapeT : ∀ id sz e n, st.shape = some (id, sz, e, n) → id ∈ st.r.touched

structure StepOK (P : Program) (cf : CF) (ops : Array Oper) (bs : List Nat) (i : Nat) (st : Step) : Prop where
  core : StepCore P cf st
  takes : takesOK bs (bs.getD i 0) i (opTmps st.o ++ guardTmp ops st.o) ops.toList 0 = true
  wanted : wantedA ops st.T st.o = some st.want
  before : st.r.before = bs.getD i 0
  skip : st.want = false → st.v = .tup [] ∧ ∀ id o, st.eff id o = o

def backE (ids : List Nat) (h' : Heap) : Eff := fun k o => if k ∈ ids then h'.getD k none else o

theorem backE_same {ids : List Nat} {h' H H' : Heap} (s : Same ids h' H H') : H' = appE (backE ids h') 0 H := by
  obtain ⟨h1, h2, h3⟩ := s
  apply List.ext_getElem?
  intro k
  rw [appE_get, Nat.zero_add]
  by_cases hk : k ∈ ids
  · have := h2 k hk
    by_cases hl : k < H.length
    · have hl' : k < H'.length := by omega
      have : h'[k]? = some H'[k] := by rw [← this]; simp [hl']
      simp [backE, hk, hl, hl', List.getD, this]
    · rw [List.getElem?_eq_none (by omega), List.getElem?_eq_none (by omega)]; rfl
  · have : backE ids h' k = fun o => o := by funext o; simp [backE, hk]
    rw [this, h3 k hk]; simp

theorem backE_const (ids : List Nat) (h' : Heap) : ∀ id, id ∈ ids → ∀ a b, backE ids h' id a = backE ids h' id b := fun id hi a b => by simp [backE, hi]
theorem backE_off (ids : List Nat) (h' : Heap) : ∀ id, id ∉ ids → ∀ o, backE ids h' id o = o := fun id hi o => by simp [backE, hi]

section
variable {P : Program} {cf : CF} (hcf : CFMono cf) (hfr : CFFr cf)
include hcf hfr

theorem drawOp_step {slot : Nat} {T : Tmps} {h h' : Heap} {b : Nat} {hol : List Nat} {o : Oper} {v : V} {ws : List Nat} {r : Rec} (e : drawOp P cf slot T h b hol o = some (v, h', ws, r)) :
    ∃ st : Step, st.o = o ∧ st.T = T ∧ st.h = h ∧ st.v = v ∧ st.want = true ∧ st.r = r ∧ h' = appE st.eff 0 h ∧ r.before = b ∧ StepCore P cf st := by
  unfold drawOp at e
  split at e
  · -- looks at no memory
    rename_i hk
    split at e
    · rename_i v' ws' hop
      cases e
      refine ⟨⟨o, T, h, v, true, fun _ o => o, _, fun _ => False, none⟩, rfl, rfl, rfl, rfl, rfl, rfl, (appE_id h).symm, rfl, ⟨?_, nofun, fun _ _ _ => rfl, .inl (fun _ hi => by simp at hi), nofun, fun hc => (hc rfl).elim, fun _ hd => hd.elim, nofun⟩⟩
      intro _ T' H hl hev hD hS
      refine ⟨none, [], ?_⟩
      rw [absOp_congr hev, pure_any hk hop H, appE_id]
    · cases e
  · -- makes an object
    rename_i hk
    split at e
    · rename_i v' h1 ws' hop
      cases e
      obtain ⟨ao, k1, k2, k3, k4⟩ := alloc_any hk hop
      subst k2 k3
      refine ⟨⟨o, T, h, v, true, putE slot (some ao), _, fun id => id = slot, none⟩, rfl, rfl, rfl, rfl, rfl, rfl, (appE_put h slot _).symm, rfl, ⟨?_, nofun, ?_, .inl ?_, nofun, fun hc => (hc rfl).elim, ?_, nofun⟩⟩
      · intro _ T' H hl hev hD hS
        refine ⟨some slot, [], ?_⟩
        rw [absOp_congr hev, k4 H (by rw [hD slot rfl]; exact k1), appE_put]
      · intro id hi o'
        simp at hi
        simp [putE, hi]
      · intro id hi a b
        simp at hi
        simp [putE, hi]
      · rintro id rfl
        exact ⟨fun _ => .inr (by simp), nofun⟩
    · cases e
  · -- a store
    rename_i hk
    split at e
    · rename_i ty a x ho
      split at e
      · rename_i id sz e' off ha
        split at e
        · rename_i v' h1 ws' hop
          cases e
          obtain ⟨k0, k1, k2, k3, k4⟩ := store_any ho ha hop
          subst k0 k2 k3
          refine ⟨⟨o, T, h, .junk, true, cellE id e' off (ev T x).cells, _, fun _ => False, some (id, sz, e', off + (ev T x).cells.length)⟩, rfl, rfl, rfl, rfl, rfl, rfl, rfl, rfl, ⟨?_, ?_, ?_, .inr ⟨_, _, _, _, rfl⟩, ?_, fun _ _ hd => hd, fun _ hd => hd.elim, ?_⟩⟩
          · intro _ T' H hl hev hD hS
            refine ⟨none, [id], ?_⟩
            rw [absOp_congr hev, k4 H (hS _ _ _ _ rfl)]
          · intro id1 sz1 e1 n1 hs; cases hs; exact k1
          · intro id1 hi o'
            simp at hi
            simp [cellE, hi]
          · intro id1 e1 off1 n1 hs; cases hs; exact ⟨_, rfl, rfl⟩
          · intro id1 sz1 e1 n1 hs; cases hs; simp
        · cases e
      · cases e
    · cases e
  · -- looks at memory
    rename_i hk
    split at e
    · rename_i v' h1 ws' hop
      cases e
      have any := fun (H : Heap) (hl : H.length = h.length) g gs => heap_any (H := H) hk hl g gs hop
      obtain ⟨hlen, H0, q1, q2⟩ := any h rfl (fun _ _ => rfl) (fun _ => rfl)
      rw [hop] at q1; cases q1
      refine ⟨⟨o, T, h, v, true, backE (if needsSlot o then slot :: ws else ws) h', _, fun id => id ∈ (o.op.operands.toList.map (ev T)).flatMap refsV ∨ (needsSlot o = true ∧ id = slot), none⟩, rfl, rfl, rfl, rfl, rfl, rfl, backE_same q2, rfl,
        ⟨?_, nofun, backE_off _ _, .inl (backE_const _ _), nofun, fun hc => (hc rfl).elim, ?_, nofun⟩⟩
      · intro _ T' H hl hev hD hS
        obtain ⟨_, H', r1, r2⟩ := any H hl (fun id hi => hD id (.inl hi)) (fun hn => hD slot (.inr ⟨hn, rfl⟩))
        exact ⟨some slot, ws, by rw [absOp_congr hev, r1, ← backE_same r2]⟩
      · rintro id (hi | ⟨hn, rfl⟩)
        · exact ⟨fun _ => .inl hi, nofun⟩
        · exact ⟨fun _ => .inr (by simp [hn]), nofun⟩
    · cases e
  · -- a call
    rename_i hk
    split at e
    · rename_i v' h1 ws' hop
      split at e
      · rename_i hlen
        cases e
        have hback : Same ws h1 h (putBack ws h1 0 h) := by
          refine ⟨putBack_length .., fun id hi => ?_, fun id hi => ?_⟩
          · by_cases hl : id < h.length
            · rw [putBack_get _ _ _ _ _ hl, Nat.zero_add, if_pos hi]
              have : id < h1.length := by omega
              simp [List.getD, this]
            · rw [List.getElem?_eq_none (by rw [putBack_length]; omega), List.getElem?_eq_none (by omega)]
          · by_cases hl : id < h.length
            · rw [putBack_get _ _ _ _ _ hl, Nat.zero_add, if_neg hi]
            · rw [List.getElem?_eq_none (by rw [putBack_length]; omega), List.getElem?_eq_none (by omega)]
        refine ⟨⟨o, T, h, v, true, backE ws h1, _, fun id => id ∉ hol, none⟩, rfl, rfl, rfl, rfl, rfl, rfl, backE_same hback, rfl,
          ⟨?_, nofun, backE_off _ _, .inl (backE_const _ _), nofun, fun hc => (hc rfl).elim, fun id hd => ⟨nofun, fun _ => hd⟩, nofun⟩⟩
        intro _ T' H hl hev hD hS
        have hsub : Sub h.length (blank hol 0 h) H := by
          refine ⟨by rw [blank_length, hl], fun id => ?_⟩
          by_cases hlt : id < h.length
          · refine ⟨fun hge => by omega, ?_⟩
            rw [blank_get, Nat.zero_add]
            split
            · left; simp [hlt]
            · rename_i hn; right; exact (hD id hn).symm
          · have : (blank hol 0 h)[id]? = H[id]? := by rw [List.getElem?_eq_none (by rw [blank_length]; omega), List.getElem?_eq_none (by simp only at hl; omega)]
            exact ⟨fun _ => this, .inr this⟩
        obtain ⟨H', r1, r2⟩ := absOp_mono hcf hsub (by rw [blank_length]; exact Nat.le_refl _) (slot := none) nofun hop
        refine ⟨none, ws, ?_⟩
        rw [absOp_congr hev, r1]
        have hs : Same ws h1 H H' := by
          have hl' : H'.length = H.length := by have := r2.1.1; simp only at hl; omega
          refine ⟨hl', fun id hi => (r2.2 id hi).symm, fun id hi => ?_⟩
          by_cases hlt : id < H.length
          · exact (absOp_fr hfr r1).2 id hlt hi nofun
          · rw [List.getElem?_eq_none (by omega), List.getElem?_eq_none (by omega)]
        rw [← backE_same hs]
      · cases e
    · cases e
  · cases e

inductive Chain (P : Program) (cf : CF) (N : Nat) (ops : Array Oper) (bs : List Nat) : List Oper → Nat → Tmps → Heap → List Step → Tmps → Heap → Prop
  | nil (i : Nat) (T : Tmps) (h : Heap) : Chain P cf N ops bs [] i T h [] T h
  | cons {o : Oper} {l : List Oper} {i : Nat} {T T' : Tmps} {h h' : Heap} {st : Step} {sts : List Step} (ho : st.o = o) (hT : st.T = T) (hh : st.h = h) (ok : StepOK P cf ops bs i st)
      (rest : Chain P cf N ops bs l (i + 1) (setD N T o.dst st.v) (appE st.eff 0 h) sts T' h') : Chain P cf N ops bs (o :: l) i T h (st :: sts) T' h'

theorem drawGo_chain {N : Nat} {ops : Array Oper} {slots bs : List Nat} : ∀ (l : List Oper) (i : Nat) (recs recs' : List Rec) (s s' : St), drawGo P cf N ops slots bs l i recs s = some (recs', s') →
    ∃ sts, recs' = recs ++ sts.map (·.r) ∧ Chain P cf N ops bs l i s.tmps s.heap sts s'.tmps s'.heap
  | [], i, recs, recs', s, s', e => by cases e; exact ⟨[], by simp, .nil ..⟩
  | o :: l, i, recs, recs', s, s', e => by
    unfold drawGo at e
    simp only at e
    split at e
    · rename_i htk
      split at e
      · cases e
      · rename_i hw
        obtain ⟨sts, h1, h2⟩ := drawGo_chain l (i + 1) _ recs' _ s' e
        refine ⟨⟨o, s.tmps, s.heap, .tup [], false, fun _ o => o, ⟨bs.getD i 0, false, [], [], [], none⟩, fun _ => False, none⟩ :: sts, by rw [h1]; simp, .cons rfl rfl rfl ⟨⟨nofun, nofun, fun _ _ _ => rfl, .inl (fun _ hi => by simp at hi), nofun, fun hc => (hc rfl).elim, fun _ hd => hd.elim, nofun⟩, htk, hw, rfl, fun _ => ⟨rfl, fun _ _ => rfl⟩⟩ ?_⟩
        simp only [appE_id]
        exact h2
      · rename_i hw
        split at e
        · cases e
        · rename_i v h ws r hop
          obtain ⟨sts, h1, h2⟩ := drawGo_chain l (i + 1) _ recs' _ s' e
          obtain ⟨st, k1, k2, k3, k4, k5, k6, k7, k8, k9⟩ := drawOp_step hcf hfr hop
          refine ⟨st :: sts, by rw [h1, List.map_cons, k6]; simp, .cons k1 k2 k3 ⟨k9, by rw [k1]; exact htk, by rw [k2, k1, k5]; exact hw, by rw [k6]; exact k8, fun hf => by rw [k5] at hf; cases hf⟩ ?_⟩
          rw [k4, ← k7]
          exact h2
    · cases e
end
end Go.Proofs.YtkbdhjfjbkmkcaaGreat.Abs
