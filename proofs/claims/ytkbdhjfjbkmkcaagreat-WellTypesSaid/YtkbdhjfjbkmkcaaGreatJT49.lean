/- The abstract machine, told anew for the kernel: regions, code, calls. -/
import Derived.Test.YtkbdhjfjbkmkcaaGreatJT48
import Derived.Test.YtkbdhjfjbkmkcaaGreatJT34
set_option linter.unusedSimpArgs false
set_option linter.unusedVariables false
namespace Go.Proofs.YtkbdhjfjbkmkcaaGreat.Abs.Fast
open Go Go.RowKit

def fin (kn : KS) (kx : KX) : AX → St → RR
  | .normal, s => kn s.tmps s.heap s.ws
  | x, s => kx x s.tmps s.heap s.ws
def HandsS (o : Option St) (f : KS → RR) : Prop := ∀ k r, f k = some r → ∃ s, o = some s ∧ k s.tmps s.heap s.ws = some r

/-! Whether an operation is to be done. -/
def gdst (ops : Array Oper) (j : Nat) : Option Nat := (ops[j]?).bind (·.dst)
noncomputable def bEq (a b : Bool) : Bool := @Bool.rec (fun _ => Bool) (notB b) b a
theorem bEq_eq (a b : Bool) : bEq a b = (a == b) := by cases a <;> cases b <;> rfl
noncomputable def wantK (ops : Array Oper) (t : Tmps) (g : Option (Nat × Bool)) (yes no : RR) : RR := @Option.rec (Nat × Bool) (fun _ => RR) yes
  (fun q => optK (gdst ops q.1) fun d => vK (tgetF t d) none (fun l => boolL l fun b => iteK (bEq b q.2) yes no)
    (fun _ => none) (fun _ => no)) g
theorem wantK_some {ops : Array Oper} {t : Tmps} {o : Oper} {yes no : RR} {r} (e : wantK ops t o.guard yes no = some r) : (wantedA ops t o = some true ∧ yes = some r) ∨ (wantedA ops t o = some false ∧ no = some r) := by
  obtain ⟨dst, op, ty, pos, after, guard⟩ := o
  cases guard with
  | none => exact .inl ⟨rfl, e⟩
  | some q =>
    obtain ⟨j, w⟩ := q
    obtain ⟨d, h1, e⟩ := optK_hands _ _ _ e
    have h1' : (ops[j]?).bind (·.dst) = some d := h1
    rw [tgetF_eq] at e
    cases hv : tget t d with
    | junk => rw [hv] at e; cases e
    | agg cs => rw [hv] at e; cases e
    | tup vs => rw [hv] at e; exact .inr ⟨by simp [wantedA, h1', hv], e⟩
    | one l =>
      rw [hv] at e
      cases l with
      | bool b =>
        have e' : iteK (bEq b w) yes no = some r := e
        rw [bEq_eq] at e'
        cases hb : (b == w) with
        | true => rw [hb] at e'; exact .inl ⟨by simp [wantedA, h1', hv, hb], e'⟩
        | false => rw [hb] at e'; exact .inr ⟨by simp only [wantedA, h1', hv, hb], e'⟩
      | _ => cases e

/-! Regions in the order of their text. -/
abbrev OpsFn := Program → CFK → Nat → Array Oper → Tmps → Heap → List Nat → KS → RR
noncomputable def opsF : List Oper → OpsFn := @List.rec Oper (fun _ => OpsFn) (fun _ _ _ _ t h w k => k t h w)
  (fun o _ ih P ck N ops t h w k => wantK ops t o.guard (opF o.op P ck t h fun v h ws => setK N t o.dst v fun t => wsK w ws fun w => ih P ck N ops t h w k) (setK N t o.dst (.tup []) fun t => ih P ck N ops t h w k))
section
variable {P : Program} {cf : CF} {ck : CFK} (hc : CFH cf ck)
include hc
theorem opsF_hands {N : Nat} {ops : Array Oper} : ∀ (l : List Oper) (t : Tmps) (h : Heap) (w : List Nat), HandsS (absOps P cf N ops l ⟨t, h, w⟩) (opsF l P ck N ops t h w)
  | [], t, h, w => fun k r e => ⟨_, rfl, e⟩
  | o :: l, t, h, w => fun k r e => by
    have e' : wantK ops t o.guard (opF o.op P ck t h fun v h ws => setK N t o.dst v fun t => wsK w ws fun w => opsF l P ck N ops t h w k) (setK N t o.dst (.tup []) fun t => opsF l P ck N ops t h w k) = some r := e
    rcases wantK_some e' with ⟨h1, h2⟩ | ⟨h1, h2⟩
    · obtain ⟨v, h', ws, h3, h4⟩ := opF_hands hc o.op t h _ _ h2
      simp only [setK_eq, wsK_eq] at h4
      obtain ⟨s, h5, h6⟩ := opsF_hands l _ _ _ _ _ h4
      refine ⟨s, ?_, h6⟩
      unfold absOps
      rw [h1]
      simp only
      rw [absOp_bare, h3]
      exact h5
    · simp only [setK_eq] at h2
      obtain ⟨s, h5, h6⟩ := opsF_hands l _ _ _ _ _ h2
      refine ⟨s, ?_, h6⟩
      unfold absOps
      rw [h1]
      exact h5

/-! Regions that draw their order. -/
omit hc in
theorem heap_slot {slot : Nat} {t : Tmps} {h : Heap} {o : Oper} (hk : okOf o = .heap) : absOp P cf (some slot) t h o = if needsSlot o then moveS slot h.length (absOp P cf none t h o) else absOp P cf none t h o := by
  cases hn : needsSlot o with
  | false => simp only [Bool.false_eq_true, if_false]; exact noSlot hk hn
  | true =>
    simp only [if_true]
    obtain ⟨dst, op, type, pos, after, guard⟩ := o
    cases op <;> simp only [okOf, reduceCtorEq] at hk <;> simp only [needsSlot, Bool.false_eq_true] at hn
    rename_i c
    obtain ⟨callee, args, tys⟩ := c
    cases callee with
    | value f => simp at hn
    | invoke r m => simp at hn
    | builtin b =>
      cases b <;> simp at hn
      obtain ⟨l⟩ := args
      obtain ⟨tl⟩ := tys
      rcases l with _ | ⟨x, _ | ⟨y, _ | ⟨z, l⟩⟩⟩ <;> rcases tl with _ | ⟨a, _ | ⟨b, _ | ⟨c, tl⟩⟩⟩ <;> first | rfl | exact append_slot
end
noncomputable def hlinkK : Heap → (Heap → RR) → RR := @List.rec (Option AO) (fun _ => (Heap → RR) → RR) (fun k => k []) (fun x _ ih k => @Option.rec AO (fun _ => RR) (ih fun xs => k (none :: xs)) (fun o => aoK o fun o => ih fun xs => k (some o :: xs)) x)
theorem hlinkK_eq : ∀ (h : Heap) (k : Heap → RR), hlinkK h k = k h
  | [], k => rfl
  | none :: xs, k => by
    show (hlinkK xs fun xs => k (none :: xs)) = _
    rw [hlinkK_eq xs]
  | some o :: xs, k => by
    show (aoK o fun o => hlinkK xs fun xs => k (some o :: xs)) = _
    rw [aoK_eq, hlinkK_eq xs]
noncomputable def moveK (slot n : Nat) (v : V) (h : Heap) (ws : List Nat) (k : K3) : RR := @Option.rec (V × Heap × List Nat) (fun _ => RR) none (fun q => v1K q.1 fun v => hlinkK q.2.1 fun h => natsK q.2.2 fun ws => k v h ws) (moveS slot n (some (v, h, ws)))
theorem moveK_some {slot n : Nat} {v : V} {h : Heap} {ws : List Nat} {k : K3} {r} (e : moveK slot n v h ws k = some r) : ∃ v' h' ws', moveS slot n (some (v, h, ws)) = some (v', h', ws') ∧ k v' h' ws' = some r := by
  unfold moveK at e
  cases hm : moveS slot n (some (v, h, ws)) with
  | none => rw [hm] at e; cases e
  | some q =>
    rw [hm] at e
    simp only [v1K_eq, hlinkK_eq, natsK_eq] at e
    exact ⟨_, _, _, rfl, e⟩
abbrev KR := V → Heap → List Nat → Rec → RR
noncomputable def storeRec (t : Tmps) (before : Nat) (op : Op) (k : Rec → RR) : RR := optK (match op with | .store _ a x => some (a, x) | _ => none) fun q => oneK (evF t q.1) fun l => lK l (fun _ => none) (fun _ _ => none) (fun _ => none) none
  (fun id _ e off => k ⟨before, false, [], [], [id], some (id, e, off, lenF (evF t q.2).cells)⟩) (fun _ _ => none) none none (fun _ _ _ _ _ => none) (fun _ => none) none (fun _ => none) none (fun _ _ => none) none
noncomputable def drawOF (P : Program) (ck : CFK) (slot : Nat) (t : Tmps) (h : Heap) (before : Nat) (holes : List Nat) (o : Oper) (k : KR) : RR := @OK.rec (fun _ => RR)
  (opF o.op P ck t [] fun v h' ws => @List.rec (Option AO) (fun _ => RR) (k v h [] ⟨before, false, [], [], [], none⟩) (fun _ _ _ => none) h')
  (opF o.op P ck t h fun v h' ws => moveK slot (lenF h) v h' ws fun v h' ws => k v h' ws ⟨before, false, [], [], [slot], none⟩)
  (storeRec t before o.op fun rc => opF o.op P ck t h fun v h' ws => k v h' ws rc)
  (opF o.op P ck t h fun v h' ws => @Bool.rec (fun _ => RR) (k v h' ws ⟨before, false, (o.op.operands.toList.map (ev t)).flatMap refsV, [], ws, none⟩)
    (moveK slot (lenF h) v h' ws fun v h' ws => k v h' ws ⟨before, false, (o.op.operands.toList.map (ev t)).flatMap refsV, [], slot :: ws, none⟩) (needsSlot o))
  (hlinkK (blank holes 0 h) fun hb => opF o.op P ck t hb fun v h' ws => iteK (Nat.beq (lenF h') (lenF hb)) (hlinkK (putBack ws h' 0 h) fun h2 => k v h2 ws ⟨before, true, [], holes, ws, none⟩) none)
  none (okOf o)
section
variable {P : Program} {cf : CF} {ck : CFK} (hc : CFH cf ck)
include hc
theorem drawOF_some {slot : Nat} {t : Tmps} {h : Heap} {before : Nat} {holes : List Nat} {o : Oper} {k : KR} {r} (e : drawOF P ck slot t h before holes o k = some r) :
    ∃ v h' ws rc, drawOp P cf slot t h before holes o = some (v, h', ws, rc) ∧ k v h' ws rc = some r := by
  unfold drawOF at e
  unfold drawOp
  cases ho : okOf o with
  | pure =>
    rw [ho] at e
    obtain ⟨v, h', ws, h1, e⟩ := opF_hands hc _ _ _ _ _ e
    rw [← absOp_bare] at h1
    cases h' with
    | nil => exact ⟨_, _, _, _, by simp only [h1], e⟩
    | cons a b => cases e
  | alloc =>
    rw [ho] at e
    obtain ⟨v, h', ws, h1, e⟩ := opF_hands hc _ _ _ _ _ e
    rw [← absOp_bare] at h1
    obtain ⟨v2, h2, ws2, h3, e⟩ := moveK_some e
    rw [lenF_eq] at h3
    exact ⟨_, _, _, _, by simp only [alloc_slot ho, h1, h3], e⟩
  | store =>
    rw [ho] at e
    have e' : storeRec t before o.op (fun rc => opF o.op P ck t h fun v h' ws => k v h' ws rc) = some r := e
    unfold storeRec at e'
    obtain ⟨q, h1, e'⟩ := optK_hands _ _ _ e'
    obtain ⟨a, x⟩ := q
    obtain ⟨l, h2, e'⟩ := oneK_some e'
    have h3 : ∃ ty, o.op = .store ty a x := by
      split at h1
      · cases h1; exact ⟨_, by assumption⟩
      · cases h1
    obtain ⟨ty, h3⟩ := h3
    simp only at h2
    rw [evF_eq] at h2
    cases l with
    | ptr id sz i off =>
      have e2 : (opF o.op P ck t h fun v h' ws => k v h' ws ⟨before, false, [], [], [id], some (id, i, off, lenF (evF t x).cells)⟩) = some r := e'
      obtain ⟨v, h', ws, h4, e2⟩ := opF_hands hc _ _ _ _ _ e2
      rw [← absOp_bare] at h4
      rw [lenF_eq, evF_eq] at e2
      refine ⟨v, h', ws, _, ?_, e2⟩
      simp only [h3, h2, h4]
    | _ => cases e'
  | heap =>
    rw [ho] at e
    obtain ⟨v, h', ws, h1, e⟩ := opF_hands hc _ _ _ _ _ e
    rw [← absOp_bare] at h1
    simp only [heap_slot ho, h1]
    cases hn : needsSlot o with
    | false =>
      rw [hn] at e
      exact ⟨_, _, _, _, by simp only [Bool.false_eq_true, if_false], e⟩
    | true =>
      rw [hn] at e
      obtain ⟨v2, h2, ws2, h3, e⟩ := moveK_some e
      rw [lenF_eq] at h3
      exact ⟨_, _, _, _, by simp only [if_true, h3], e⟩
  | call =>
    rw [ho] at e
    simp only [hlinkK_eq] at e
    obtain ⟨v, h', ws, h1, e⟩ := opF_hands hc _ _ _ _ _ e
    rw [← absOp_bare] at h1
    obtain ⟨h2, e⟩ := iteK_some e
    have h2 := Nat.eq_of_beq_eq_true h2
    rw [lenF_eq, lenF_eq, blank_length] at h2
    exact ⟨_, _, _, _, by simp only [h1, h2, if_true], e⟩
  | bad => rw [ho] at e; cases e
end
abbrev GoFn := Program → CFK → Nat → Array Oper → Nat → List (OK × Inf) → List Rec → Tmps → Heap → List Nat → (List Rec → KS) → RR
noncomputable def goF : List Oper → GoFn := @List.rec Oper (fun _ => GoFn) (fun _ _ _ _ _ _ recs t h w k => k recs t h w)
  (fun o _ ih P ck N ops base xs recs t h w k => @List.rec (OK × Inf) (fun _ => RR) none (fun x xs _ =>
    wantK ops t o.guard (drawOF P ck (base + x.2.off) t h x.2.b (holesI x.2.ah recs ++ x.2.later.map (base + ·)) o fun v h ws rc => setK N t o.dst v fun t => wsK w ws fun w => ih P ck N ops base xs (recs ++ [rc]) t h w k)
      (setK N t o.dst (.tup []) fun t => ih P ck N ops base xs (recs ++ [⟨x.2.b, false, [], [], [], none⟩]) t h w k)) xs)
noncomputable def drawF (P : Program) (ck : CFK) (N : Nat) (ops : Array Oper) (t : Tmps) (h : Heap) (w : List Nat) (k : KS) : RR := optK (infoOf ops N) fun inf =>
  hlinkK (h ++ List.replicate inf.cnt none) fun h2 => natK (lenF h) fun base => goF ops.toList P ck N ops base inf.ops [] t h2 w fun recs t h w => iteK (unOK inf.un recs) (k t h w) none
noncomputable def quietF : List Oper → OpsFn := @List.rec Oper (fun _ => OpsFn) (fun _ _ _ _ t h w k => k t h w)
  (fun o _ ih P ck N ops t h w k => wantK ops t o.guard (opF o.op P ck t h fun v h' ws => @List.rec Nat (fun _ => RR) (iteK (Nat.beq (lenF h') (lenF h)) (setK N t o.dst v fun t => ih P ck N ops t h w k) none) (fun _ _ _ => none) ws) (setK N t o.dst (.tup []) fun t => ih P ck N ops t h w k))
section
variable {P : Program} {cf : CF} {ck : CFK} (hc : CFH cf ck)
include hc
theorem goF_some {N : Nat} {ops : Array Oper} {base : Nat} : ∀ (l : List Oper) (xs : List (OK × Inf)) (recs : List Rec) (t : Tmps) (h : Heap) (w : List Nat) (k : List Rec → KS) (r), goF l P ck N ops base xs recs t h w k = some r →
    ∃ recs' s, goI P cf N ops base l xs recs ⟨t, h, w⟩ = some (recs', s) ∧ k recs' s.tmps s.heap s.ws = some r
  | [], xs, recs, t, h, w, k, r, e => ⟨recs, ⟨t, h, w⟩, by unfold goI; rfl, e⟩
  | o :: l, [], recs, t, h, w, k, r, e => by cases e
  | o :: l, x :: xs, recs, t, h, w, k, r, e => by
    have e' : wantK ops t o.guard (drawOF P ck (base + x.2.off) t h x.2.b (holesI x.2.ah recs ++ x.2.later.map (base + ·)) o fun v h ws rc => setK N t o.dst v fun t => wsK w ws fun w => goF l P ck N ops base xs (recs ++ [rc]) t h w k)
      (setK N t o.dst (.tup []) fun t => goF l P ck N ops base xs (recs ++ [⟨x.2.b, false, [], [], [], none⟩]) t h w k) = some r := e
    unfold goI
    rcases wantK_some e' with ⟨h1, h2⟩ | ⟨h1, h2⟩
    · obtain ⟨v, h', ws, rc, h3, h4⟩ := drawOF_some hc h2
      simp only [setK_eq, wsK_eq] at h4
      obtain ⟨recs', s, h5, h6⟩ := goF_some l xs _ _ _ _ _ _ h4
      exact ⟨recs', s, by simp only [h1, h3]; exact h5, h6⟩
    · simp only [setK_eq] at h2
      obtain ⟨recs', s, h5, h6⟩ := goF_some l xs _ _ _ _ _ _ h2
      exact ⟨recs', s, by simp only [h1]; exact h5, h6⟩
theorem drawF_hands {N : Nat} {ops : Array Oper} (t : Tmps) (h : Heap) (w : List Nat) : HandsS (absDraw P cf N ops ⟨t, h, w⟩) (drawF P ck N ops t h w) := fun k r e => by
  unfold drawF at e
  obtain ⟨inf, h1, e⟩ := optK_hands _ _ _ e
  simp only [hlinkK_eq, natK_eq, lenF_eq] at e
  obtain ⟨recs, s, h2, e⟩ := goF_some hc _ _ _ _ _ _ _ _ e
  obtain ⟨h3, e⟩ := iteK_some e
  refine ⟨s, draw_info h1 ?_, e⟩
  unfold drawI
  simp only [h2, h3, if_true]
theorem quietF_hands {N : Nat} {ops : Array Oper} : ∀ (l : List Oper) (t : Tmps) (h : Heap) (w : List Nat), HandsS (quietOps P cf N ops l ⟨t, h, w⟩) (quietF l P ck N ops t h w)
  | [], t, h, w => fun k r e => ⟨_, rfl, e⟩
  | o :: l, t, h, w => fun k r e => by
    have e' : wantK ops t o.guard (opF o.op P ck t h fun v h' ws => @List.rec Nat (fun _ => RR) (iteK (Nat.beq (lenF h') (lenF h)) (setK N t o.dst v fun t => quietF l P ck N ops t h w k) none) (fun _ _ _ => none) ws) (setK N t o.dst (.tup []) fun t => quietF l P ck N ops t h w k) = some r := e
    unfold quietOps
    rcases wantK_some e' with ⟨h1, h2⟩ | ⟨h1, h2⟩
    · obtain ⟨v, h', ws, h3, h4⟩ := opF_hands hc o.op t h _ _ h2
      rw [← absOp_bare] at h3
      cases ws with
      | cons a b => cases h4
      | nil =>
        obtain ⟨h5, h6⟩ := iteK_some h4
        have h5 := Nat.eq_of_beq_eq_true h5
        rw [lenF_eq, lenF_eq] at h5
        simp only [setK_eq] at h6
        obtain ⟨s, h7, h8⟩ := quietF_hands l _ _ _ _ _ h6
        exact ⟨s, by simp only [h1, h3, h5, if_true]; exact h7, h8⟩
    · simp only [setK_eq] at h2
      obtain ⟨s, h5, h6⟩ := quietF_hands l _ _ _ _ _ h2
      exact ⟨s, by simp only [h1]; exact h5, h6⟩
end

/-! In order. -/
noncomputable def tmpsK : Tmps → (Tmps → RR) → RR := @List.rec (Nat × V) (fun _ => (Tmps → RR) → RR) (fun k => k []) (fun x _ ih k => natK x.1 fun i => v3K x.2 fun v => ih fun xs => k ((i, v) :: xs))
theorem tmpsK_eq : ∀ (t : Tmps) (k : Tmps → RR), tmpsK t k = k t
  | [], k => rfl
  | x :: xs, k => by
    show (natK x.1 fun i => v3K x.2 fun v => tmpsK xs fun xs => k ((i, v) :: xs)) = _
    rw [natK_eq, v3K_eq, tmpsK_eq xs]
noncomputable def atK (n0 : Nat) (K : List (Nat × Kd)) (id : Nat) (t : Tmps) (h : Heap) (w : List Nat) (k : KS) : RR := @Bool.rec (fun _ => RR) (k t h w) (tidyK n0 K (killT id K t) h w k) (hasR id K)
theorem atK_some {n0 : Nat} {K : List (Nat × Kd)} {id : Nat} {s : St} {k : KS} {r} (e : atK n0 K id s.tmps s.heap s.ws k = some r) : k (atR n0 K id s).tmps (atR n0 K id s).heap (atR n0 K id s).ws = some r := by
  unfold atK at e
  unfold atR
  cases hh : hasR id K with
  | false => rw [hh] at e; exact e
  | true => rw [hh] at e; simp only [if_true]; exact tidyK_some e

def calmB (ops : Array Oper) : Bool := ops.toList.all fun o => match o.op with
  | .mapUpdate .. | .mapEntry .. | .entryStore .. => false
  | .call { callee := .builtin .delete, .. } => false
  | .call { callee := .builtin .copy, .. } => false
  | _ => true
def quietB' (ops : Array Oper) (N : Nat) : Bool := quietB ops N && calmB ops
/-! Code. -/
structure FE where
  P : Program
  ck : CFK
  n : Nat
  N : Nat
  n0 : Nat
  K : List (Nat × Kd)
abbrev ScK := Code → Code → Tmps → Heap → List Nat → KS → KX → RR
abbrev CodeFn := FE → ScK → Tmps → Heap → List Nat → KS → KX → RR
noncomputable def regF (id : Nat) (ops : Array Oper) (draw : Bool) : CodeFn := fun e _ t h w kn _ => @Bool.rec (fun _ => RR)
  (opsF ops.toList e.P e.ck e.N ops t h w fun t h w => atK e.n0 e.K id t h w kn)
  (@Bool.rec (fun _ => RR) (drawF e.P e.ck e.N ops t h w fun t h w => atK e.n0 e.K id t h w kn) (quietF ops.toList e.P e.ck e.N ops t h w fun t h w => atK e.n0 e.K id t h w kn) (quietB' ops e.N)) draw
noncomputable def condF (c : Operand) (fa fb : CodeFn) : CodeFn := fun e sc t h w kn kx => oneK (evF t c) fun l => boolL l fun b => @Bool.rec (fun _ => RR) (fb e sc t h w kn kx) (fa e sc t h w kn kx) b
noncomputable def exitF (id : Nat) (kn : KS) (kx : KX) : KX := fun x t h w => @AX.rec (fun _ => RR) (kx .normal t h w) (fun i => @Bool.rec (fun _ => RR) (kx (.exit i) t h w) (kn t h w) (Nat.beq i id)) (fun l => kx (.goto l) t h w) (kx .ret t h w) x
abbrev LpFn := Tmps → Heap → List Nat → KS → KX → RR
noncomputable def iterF (n0 : Nat) (K : List (Nat × Kd)) (f : LpFn) (kx : KX) : Nat → Tmps → Heap → List Nat → RR := @Nat.rec (fun _ => Tmps → Heap → List Nat → RR) (fun _ _ _ => none)
  (fun _ ih t h w => f t h w (fun t h w => tidyK n0 K t h w ih) fun x t h w => tidyK n0 K t h w (kx x))
noncomputable def scopeF (c : Code) (sc : ScK) (kn : KS) (kx : KX) : KX := fun x t h w => @AX.rec (fun _ => RR) (kx .normal t h w) (fun i => kx (.exit i) t h w) (fun l => @Option.rec Code (fun _ => RR) (kx (.goto l) t h w) (fun rest => sc c rest t h w kn kx) (findLabel c l)) (kx .ret t h w) x
noncomputable def rangeF (fa fb : CodeFn) (ps : List Nat) (e : FE) (sc : ScK) (kn : KS) (kx : KX) : List (List V) → Tmps → Heap → List Nat → RR := @List.rec (List V) (fun _ => Tmps → Heap → List Nat → RR) kn
  (fun x _ ih t h w => tmpsK (setAll e.N ps x t) fun t1 => fa e sc t1 h w (fun t2 h2 w2 => fb e sc t2 h2 w2 (fun _ h3 w3 => tidyK e.n0 e.K t h3 w3 ih) fun y _ h3 w3 => kx y t h3 w3) fun _ _ _ _ => none)
noncomputable def codeF : Code → CodeFn := @Code.rec (fun _ => CodeFn) (fun _ _ t h w kn _ => kn t h w) regF
  (fun _ _ fa fb e sc t h w kn kx => fa e sc t h w (fun t h w => fb e sc t h w kn kx) kx) (fun c _ _ fa fb => condF c fa fb)
  (fun id _ f e sc t h w kn kx => f e sc t h w kn (exitF id kn kx)) (fun _ f e sc t h w _ kx => tidyK e.n0 e.K t h w fun t h w => iterF e.n0 e.K (f e sc) kx e.n t h w)
  (fun g ps as body fa fb e sc t h w kn kx => @Option.rec (List (List V)) (fun _ => RR) none (fun xs => tidyK e.n0 e.K t h w fun t h w => rangeF fa fb ps.toList e sc kn kx xs t h w) (rangeOf e.P e.K (ps.size == 2 && flatC e.K as && flatC e.K body) (ev t g)))
  (fun id _ _ t h w _ kx => kx (.exit id) t h w) (fun c f e sc t h w kn kx => f e sc t h w kn (scopeF c sc kn kx)) (fun _ _ _ t h w kn _ => kn t h w) (fun l _ _ t h w _ kx => kx (.goto l) t h w) (fun _ _ t h w _ kx => kx .ret t h w) (fun _ _ _ _ _ _ _ _ => none)

def ScH (sc : Code → Code → St → Option (AX × St)) (sk : ScK) : Prop := ∀ b c t h w kn kx r, sk b c t h w kn kx = some r → ∃ x s, sc b c ⟨t, h, w⟩ = some (x, s) ∧ fin kn kx x s = some r
section
variable {cf : CF}
theorem iterF_hands {n0 : Nat} {K : List (Nat × Kd)} {g : St → Option (AX × St)} {f : LpFn} (hf : ∀ t h w kn kx r, f t h w kn kx = some r → ∃ x s, g ⟨t, h, w⟩ = some (x, s) ∧ fin kn kx x s = some r) (kn : KS) (kx : KX) : ∀ (n : Nat) t h w r, iterF n0 K f kx n t h w = some r →
    ∃ x s, iter (fun s => tidyR n0 K (g s)) n ⟨t, h, w⟩ = some (x, s) ∧ fin kn kx x s = some r
  | 0, t, h, w, r, e => by cases e
  | n + 1, t, h, w, r, e => by
    obtain ⟨x, s, h1, h2⟩ := hf t h w _ _ r e
    unfold iter
    simp only [h1, tidyR]
    cases x with
    | normal =>
      have h3 : tidyK n0 K s.tmps s.heap s.ws (iterF n0 K f kx n) = some r := h2
      have h3 := tidyK_some h3
      exact iterF_hands hf kn kx n _ _ _ _ h3
    | exit i =>
      have h3 : tidyK n0 K s.tmps s.heap s.ws (kx (.exit i)) = some r := h2
      have h3 := tidyK_some h3
      exact ⟨_, _, rfl, h3⟩
    | goto i =>
      have h3 : tidyK n0 K s.tmps s.heap s.ws (kx (.goto i)) = some r := h2
      have h3 := tidyK_some h3
      exact ⟨_, _, rfl, h3⟩
    | ret =>
      have h3 : tidyK n0 K s.tmps s.heap s.ws (kx .ret) = some r := h2
      have h3 := tidyK_some h3
      exact ⟨_, _, rfl, h3⟩
theorem rangeF_hands {e : FE} {sk : ScK} {ga gb : St → Option (AX × St)} {fa fb : CodeFn} (hfa : ∀ t h w kn kx r, fa e sk t h w kn kx = some r → ∃ x s, ga ⟨t, h, w⟩ = some (x, s) ∧ fin kn kx x s = some r)
    (hfb : ∀ t h w kn kx r, fb e sk t h w kn kx = some r → ∃ x s, gb ⟨t, h, w⟩ = some (x, s) ∧ fin kn kx x s = some r) (ps : List Nat) (kn : KS) (kx : KX) (hkx : ∀ t h w, kx .normal t h w = kx .normal t h w) :
    ∀ (xs : List (List V)) t h w r, rangeF fa fb ps e sk kn kx xs t h w = some r → ∃ x s, rangeGo (roundR e.N e.n0 e.K ps ga gb) xs ⟨t, h, w⟩ = some (x, s) ∧ fin kn kx x s = some r
  | [], t, h, w, r, h0 => ⟨.normal, ⟨t, h, w⟩, rfl, h0⟩
  | v :: xs, t, h, w, r, h0 => by
    have h1 : (tmpsK (setAll e.N ps v t) fun t1 => fa e sk t1 h w (fun t2 h2 w2 => fb e sk t2 h2 w2 (fun _ h3 w3 => tidyK e.n0 e.K t h3 w3 (rangeF fa fb ps e sk kn kx xs)) fun y _ h3 w3 => kx y t h3 w3) fun _ _ _ _ => none) = some r := h0
    rw [tmpsK_eq] at h1
    obtain ⟨x, s, h2, h3⟩ := hfa _ _ _ _ _ _ h1
    unfold rangeGo roundR
    simp only [h2]
    cases x with
    | normal =>
      obtain ⟨y, s2, h4, h5⟩ := hfb _ _ _ _ _ _ h3
      simp only [h4]
      cases y with
      | normal =>
        have h6 : tidyK e.n0 e.K t s2.heap s2.ws (rangeF fa fb ps e sk kn kx xs) = some r := h5
        have h6 := tidyK_some h6
        exact rangeF_hands hfa hfb ps kn kx hkx xs _ _ _ _ h6
      | exit i => exact ⟨_, _, rfl, h5⟩
      | goto i => exact ⟨_, _, rfl, h5⟩
      | ret => exact ⟨_, _, rfl, h5⟩
    | exit i => cases h3
    | goto i => cases h3
    | ret => cases h3
theorem codeF_hands {e : FE} (hfr : CFFr cf) (hc : CFH cf e.ck) {sc : Code → Code → St → Option (AX × St)} {sk : ScK} (hsc : ScH sc sk) (c : Code) :
    ∀ t h w kn kx r, codeF c e sk t h w kn kx = some r → ∃ x s, absCode e.P cf sc e.n e.N e.n0 e.K c ⟨t, h, w⟩ = some (x, s) ∧ fin kn kx x s = some r := by
  induction c with
  | skip => intro t h w kn kx r h0; exact ⟨.normal, _, rfl, h0⟩
  | region id ops draw =>
    intro t h w kn kx r h0
    cases draw with
    | false =>
      obtain ⟨s, h1, h2⟩ := opsF_hands hc ops.toList t h w _ _ h0
      have h2 := atK_some h2
      exact ⟨.normal, _, by simp only [absCode, h1]; rfl, h2⟩
    | true =>
      have h1 : @Bool.rec (fun _ => RR) (drawF e.P e.ck e.N ops t h w fun t h w => atK e.n0 e.K id t h w kn) (quietF ops.toList e.P e.ck e.N ops t h w fun t h w => atK e.n0 e.K id t h w kn) (quietB' ops e.N) = some r := h0
      cases hq : quietB' ops e.N with
      | false =>
        rw [hq] at h1
        obtain ⟨s, h2, h3⟩ := drawF_hands hc t h w _ _ h1
        have h3 := atK_some h3
        exact ⟨.normal, _, by simp only [absCode, h2]; rfl, h3⟩
      | true =>
        rw [hq] at h1
        obtain ⟨s, h2, h3⟩ := quietF_hands hc ops.toList t h w _ _ h1
        have h3 := atK_some h3
        exact ⟨.normal, _, by simp only [absCode, draw_quiet hfr (by unfold quietB' at hq; simp only [Bool.and_eq_true] at hq; exact hq.1) h2]; rfl, h3⟩
  | seq a b iha ihb =>
    intro t h w kn kx r h0
    obtain ⟨x, s, h1, h2⟩ := iha t h w _ _ r h0
    simp only [absCode, h1]
    cases x with
    | normal => exact ihb _ _ _ _ _ _ h2
    | exit i => exact ⟨_, _, rfl, h2⟩
    | goto i => exact ⟨_, _, rfl, h2⟩
    | ret => exact ⟨_, _, rfl, h2⟩
  | cond c a b iha ihb =>
    intro t h w kn kx r h0
    obtain ⟨l, hl, h0⟩ := oneK_some h0
    rw [evF_eq] at hl
    cases l with
    | bool v =>
      cases v with
      | true => simp only [absCode, hl]; exact iha _ _ _ _ _ _ h0
      | false => simp only [absCode, hl]; exact ihb _ _ _ _ _ _ h0
    | _ => cases h0
  | block id c ih =>
    intro t h w kn kx r h0
    obtain ⟨x, s, h1, h2⟩ := ih t h w _ _ r h0
    simp only [absCode, h1]
    cases x with
    | normal => exact ⟨_, _, rfl, h2⟩
    | exit i =>
      have h3 : @Bool.rec (fun _ => RR) (kx (.exit i) s.tmps s.heap s.ws) (kn s.tmps s.heap s.ws) (Nat.beq i id) = some r := h2
      by_cases hi : i = id
      · rw [show Nat.beq i id = true from by simp [hi]] at h3
        exact ⟨.normal, s, by simp [hi], h3⟩
      · rw [show Nat.beq i id = false from by
          cases hb : Nat.beq i id with
          | false => rfl
          | true => exact (hi (Nat.eq_of_beq_eq_true hb)).elim] at h3
        exact ⟨.exit i, s, by simp [hi], h3⟩
    | goto i => exact ⟨_, _, rfl, h2⟩
    | ret => exact ⟨_, _, rfl, h2⟩
  | loop c ih =>
    intro t h w kn kx r h0
    have h1 : (tidyK e.n0 e.K t h w fun t h w => iterF e.n0 e.K (codeF c e sk) kx e.n t h w) = some r := h0
    have h1 := tidyK_some h1
    simp only [absCode]
    exact iterF_hands ih kn kx _ _ _ _ _ h1
  | rangeFunc g ps as body iha ihb =>
    intro t h w kn kx r h0
    have h1 : @Option.rec (List (List V)) (fun _ => RR) none (fun xs => tidyK e.n0 e.K t h w fun t h w => rangeF (codeF as) (codeF body) ps.toList e sk kn kx xs t h w) (rangeOf e.P e.K (ps.size == 2 && flatC e.K as && flatC e.K body) (ev t g)) = some r := h0
    simp only [absCode]
    cases hx : rangeOf e.P e.K (ps.size == 2 && flatC e.K as && flatC e.K body) (ev t g) with
    | none => rw [hx] at h1; cases h1
    | some xs =>
      rw [hx] at h1
      have h1 := tidyK_some h1
      exact rangeF_hands iha ihb ps.toList kn kx (fun _ _ _ => rfl) xs _ _ _ _ h1
  | exit id => intro t h w kn kx r h0; exact ⟨.exit id, _, rfl, h0⟩
  | scope c ih =>
    intro t h w kn kx r h0
    obtain ⟨x, s, h1, h2⟩ := ih t h w _ _ r h0
    simp only [absCode, h1]
    cases x with
    | normal => exact ⟨_, _, rfl, h2⟩
    | exit i => exact ⟨_, _, rfl, h2⟩
    | goto l =>
      have h3 : @Option.rec Code (fun _ => RR) (kx (.goto l) s.tmps s.heap s.ws) (fun rest => sk c rest s.tmps s.heap s.ws kn kx) (findLabel c l) = some r := h2
      cases hl : findLabel c l with
      | none => rw [hl] at h3; simp only [hl]; exact ⟨.goto l, s, rfl, h3⟩
      | some rest => rw [hl] at h3; simp only [hl]; exact hsc _ _ _ _ _ _ _ _ h3
    | ret => exact ⟨_, _, rfl, h2⟩
  | label l => intro t h w kn kx r h0; exact ⟨.normal, _, rfl, h0⟩
  | goto l => intro t h w kn kx r h0; exact ⟨.goto l, _, rfl, h0⟩
  | ret => intro t h w kn kx r h0; exact ⟨.ret, _, rfl, h0⟩
  | refuse why => intro t h w kn kx r h0; cases h0

noncomputable def scF (e : FE) : Nat → ScK := @Nat.rec (fun _ => ScK) (fun _ _ _ _ _ _ _ => none) (fun _ ih body cur t h w kn kx => codeF cur e ih t h w kn (scopeF body ih kn kx))
theorem scF_hands {e : FE} (hfr : CFFr cf) (hc : CFH cf e.ck) : ∀ m, ScH (absScope e.P cf e.n e.N e.n0 e.K m) (scF e m)
  | 0 => fun b c t h w kn kx r h0 => by cases h0
  | m + 1 => fun b c t h w kn kx r h0 => by
    obtain ⟨x, s, h1, h2⟩ := codeF_hands hfr hc (scF_hands hfr hc m) c t h w _ _ r h0
    simp only [absScope, h1]
    cases x with
    | normal => exact ⟨_, _, rfl, h2⟩
    | exit i => exact ⟨_, _, rfl, h2⟩
    | goto l =>
      have h3 : @Option.rec Code (fun _ => RR) (kx (.goto l) s.tmps s.heap s.ws) (fun rest => scF e m b rest s.tmps s.heap s.ws kn kx) (findLabel b l) = some r := h2
      cases hl : findLabel b l with
      | none => rw [hl] at h3; simp only [hl]; exact ⟨.goto l, s, rfl, h3⟩
      | some rest => rw [hl] at h3; simp only [hl]; exact scF_hands hfr hc m _ _ _ _ _ _ _ _ h3
    | ret => exact ⟨_, _, rfl, h2⟩
end

/-! Calls. -/
noncomputable def endF (C : Cfg) (f : FuncId) (P : Program) (rs : List ResultVar) (n0 : Nat) (k : K3) : KS := fun t h w => @Option.rec (List V) (fun _ => RR) none (fun vs => wrapUK (C.keep f) n0 (resV vs) h w k) (resOf P t h rs)
theorem endF_some {C : Cfg} {f : FuncId} {P : Program} {rs : List ResultVar} {n0 : Nat} {k : K3} {t : Tmps} {h : Heap} {w : List Nat} {r} (e : endF C f P rs n0 k t h w = some r) :
    ∃ vs, resOf P t h rs = some vs ∧ k (wrapUp (C.keep f) n0 (resV vs) h w).1 (wrapUp (C.keep f) n0 (resV vs) h w).2.1 (wrapUp (C.keep f) n0 (resV vs) h w).2.2 = some r := by
  unfold endF at e
  cases hr : resOf P t h rs with
  | none => rw [hr] at e; cases e
  | some vs => rw [hr] at e; exact ⟨vs, rfl, wrapUK_some e⟩
noncomputable def axRet (kn : KS) : KX := fun x t h w => @AX.rec (fun _ => RR) none (fun _ => none) (fun _ => none) (kn t h w) x
noncomputable def frameF (P : Program) (C : Cfg) (ck : CFK) (n : Nat) (f : FuncId) (args : List V) (h : Heap) (k : K3) : RR := optK (P.funcs[f]?) fun fn => optK fn.body fun body =>
  natK (max fn.ntmps (lenF args)) fun N => natK (lenF h) fun n0 => codeF body ⟨P, ck, n, N, n0, C.live f⟩ (scF ⟨P, ck, n, N, n0, C.live f⟩ n) (argT 0 args) h [] (endF C f P fn.results.toList n0 k) (axRet (endF C f P fn.results.toList n0 k))
noncomputable def readF (rd : FuncId → Bool) (ck : CFK) : CFK := fun g args h k => @Bool.rec (fun _ => RR) (ck g args h k) (@Option.rec (List V) (fun _ => RR) none (fun as => vsK as fun as => ck g as [] fun v _ _ => iteK (scalarV v) (k v h []) none) (mapO (fzV h 0 []) args)) (rd g)
theorem readF_hands {rd : FuncId → Bool} {cf : CF} {ck : CFK} (hc : CFH cf ck) : CFH (cfR rd cf) (readF rd ck) := fun g args h k r e => by
  unfold cfR
  unfold readF at e
  cases hg : rd g with
  | false => rw [hg] at e; exact hc g args h k r e
  | true =>
    rw [hg] at e
    simp only at e ⊢
    cases hm : mapO (fzV h 0 []) args with
    | none => rw [hm] at e; cases e
    | some as =>
      rw [hm] at e
      simp only [vsK_eq] at e
      obtain ⟨v, h', ws, h1, h2⟩ := hc g as [] _ _ e
      obtain ⟨h3, h4⟩ := iteK_some h2
      exact ⟨v, h, [], by simp only [h1, h3, if_true], h4⟩
def hasT (tab : Tab) (f : FuncId) : Bool := tab.any fun e => Nat.beq e.1 f
noncomputable def callF (P : Program) (C : Cfg) (tab : Tab) : Nat → CFK := @Nat.rec (fun _ => CFK) (fun _ _ _ _ => none) fun n ih f args h k =>
  @Bool.rec (fun _ => RR) (@Option.rec V (fun _ => RR) (frameF P C (readF C.read ih) n f args h k) (fun v => v3K v fun v => k v h []) (C.told f args))
    (@Option.rec (V × Heap × List Nat) (fun _ => RR) (@Option.rec V (fun _ => RR) (frameF P C (readF C.read ih) n f args h k) (fun v => v3K v fun v => k v h []) (C.told f args)) (fun q => v3K q.1 fun v => heapK q.2.1 fun h => natsK q.2.2 fun ws => k v h ws) (look tab f args h)) (hasT tab f)
theorem look_none {tab : Tab} {f : FuncId} {args : List V} {h : Heap} (e : hasT tab f = false) : look tab f args h = none := by
  induction tab with
  | nil => rfl
  | cons x xs ih =>
    simp only [hasT, List.any_cons, Bool.or_eq_false_iff] at e
    unfold look
    rw [e.1, Bool.false_and, Bool.false_and]
    exact ih e.2
theorem absCallT_fr {P : Program} {C : Cfg} {tab : Tab} {N : Nat} (ht : TabOK P C N tab) (n : Nat) : CFFr (cfR C.read (absCallT P C tab n)) := cfR_fr (by
  intro f args H v H' ws e
  exact absCall_fr _ _ _ _ _ _ _ (absCallT_le ht n _ _ _ _ e))
theorem callF_hands {P : Program} {C : Cfg} {tab : Tab} {N : Nat} (ht : TabOK P C N tab) : ∀ n, CFH (absCallT P C tab n) (callF P C tab n)
  | 0 => fun f args h k r e => by cases e
  | n + 1 => fun f args h k r e => by
    have hfr := absCallT_fr ht n
    have hc := readF_hands (rd := C.read) (callF_hands ht n)
    have key : look tab f args h = none → @Option.rec V (fun _ => RR) (frameF P C (readF C.read (callF P C tab n)) n f args h k) (fun v => v3K v fun v => k v h []) (C.told f args) = some r →
        ∃ v h' ws, absCallT P C tab (n + 1) f args h = some (v, h', ws) ∧ k v h' ws = some r := fun hl e => by
      unfold absCallT
      simp only [hl]
      cases hto : C.told f args with
      | some v =>
        rw [hto] at e
        simp only [v3K_eq] at e
        exact ⟨_, _, _, rfl, e⟩
      | none =>
        rw [hto] at e
        have e' : frameF P C (readF C.read (callF P C tab n)) n f args h k = some r := e
        unfold frameF at e'
        obtain ⟨fn, h1, e'⟩ := optK_hands _ _ _ e'
        obtain ⟨body, h2, e'⟩ := optK_hands _ _ _ e'
        simp only [natK_eq, lenF_eq] at e'
        obtain ⟨x, s, h3, h4⟩ := codeF_hands (e := ⟨P, readF C.read (callF P C tab n), n, max fn.ntmps args.length, h.length, C.live f⟩) hfr hc (scF_hands hfr hc n) body _ _ _ _ _ _ e'
        simp only at h3
        simp only [h1, h2, h3]
        cases x with
        | normal =>
          obtain ⟨vs, h5, h6⟩ := endF_some h4
          exact ⟨_, _, _, by simp only [h5]; rfl, h6⟩
        | ret =>
          obtain ⟨vs, h5, h6⟩ := endF_some h4
          exact ⟨_, _, _, by simp only [h5]; rfl, h6⟩
        | exit i => cases h4
        | goto i => cases h4
    have e' : @Bool.rec (fun _ => RR) (@Option.rec V (fun _ => RR) (frameF P C (readF C.read (callF P C tab n)) n f args h k) (fun v => v3K v fun v => k v h []) (C.told f args))
      (@Option.rec (V × Heap × List Nat) (fun _ => RR) (@Option.rec V (fun _ => RR) (frameF P C (readF C.read (callF P C tab n)) n f args h k) (fun v => v3K v fun v => k v h []) (C.told f args)) (fun q => v3K q.1 fun v => heapK q.2.1 fun h => natsK q.2.2 fun ws => k v h ws) (look tab f args h)) (hasT tab f) = some r := e
    cases hh : hasT tab f with
    | false => rw [hh] at e'; exact key (look_none hh) e'
    | true =>
      rw [hh] at e'
      cases hl : look tab f args h with
      | none => rw [hl] at e'; exact key hl e'
      | some q =>
        rw [hl] at e'
        simp only [v3K_eq, heapK_eq, natsK_eq] at e'
        exact ⟨q.1, q.2.1, q.2.2, by unfold absCallT; simp only [hl], e'⟩
noncomputable def runF (P : Program) (C : Cfg) (tab : Tab) (n : Nat) (f : FuncId) (args : List V) (h : Heap) : RR := callF P C tab n f args h fun v h ws => some (v, h, ws)
theorem runF_some {P : Program} {C : Cfg} {tab : Tab} {N n : Nat} (ht : TabOK P C N tab) {f : FuncId} {args : List V} {h : Heap} {r : V × Heap × List Nat} (e : runF P C tab n f args h = some r) : absCallT P C tab n f args h = some r := by
  obtain ⟨v, h', ws, h1, h2⟩ := callF_hands ht n f args h _ _ e
  cases h2
  exact h1
theorem addF {P : Program} {C : Cfg} {tab : Tab} {N n : Nat} (ht : TabOK P C N tab) {f : FuncId} {args : List V} {h : Heap} {r : V × Heap × List Nat} (e : sameR (runF P C tab n f args h) r = true) : TabOK P C (N + n) ((f, args, h, r) :: tab) := by
  intro x hx
  rcases List.mem_cons.1 hx with rfl | hx
  · exact absCallT_le ht n _ _ _ _ (runF_some ht (sameR_eq e))
  · exact absCall_le N (N + n) (by omega) _ _ _ _ (ht x hx)
end Go.Proofs.YtkbdhjfjbkmkcaaGreat.Abs.Fast
