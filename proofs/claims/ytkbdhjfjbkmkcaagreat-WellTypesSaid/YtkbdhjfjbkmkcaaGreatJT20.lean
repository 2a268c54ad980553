/- The abstract machine: what single operations hang on. -/
import Derived.Test.YtkbdhjfjbkmkcaaGreatJT19
set_option linter.unusedSimpArgs false
set_option linter.unusedVariables false
namespace Go.Proofs.YtkbdhjfjbkmkcaaGreat.Abs
open Go Go.RowKit

theorem mapM_congr' {α β : Type} {f g : α → Option β} : ∀ {l : List α}, (∀ x, x ∈ l → f x = g x) → l.mapM f = l.mapM g
  | [], _ => rfl
  | x :: l, h => by
    rw [List.mapM_cons, List.mapM_cons, h x List.mem_cons_self, mapM_congr' fun y hy => h y (List.mem_cons_of_mem _ hy)]

theorem absOp_congr {P : Program} {cf : CF} {slot : Option Nat} {t t' : Tmps} {H : Heap} {o : Oper} (h : ∀ x, x ∈ o.op.operands.toList → ev t x = ev t' x) : absOp P cf slot t H o = absOp P cf slot t' H o := by
  obtain ⟨dst, op, type, pos, after, guard⟩ := o
  simp only at h
  cases op
  case call c =>
    obtain ⟨callee, args, tys⟩ := c
    cases callee with
    | value f =>
      have hf : ev t f = ev t' f := h f (by simp [Op.operands, Call.operands])
      have ha : args.toList.map (ev t) = args.toList.map (ev t') := List.map_congr_left fun x hx => h x (by simp [Op.operands, Call.operands]; right; simpa using hx)
      simp only [absOp, hf, ha]
    | invoke r m => rfl
    | builtin b =>
      have ha : ∀ x, x ∈ args.toList → ev t x = ev t' x := fun x hx => h x (by simp [Op.operands, Call.operands]; simpa using hx)
      simp only [absOp]
      split
      · rename_i x ty h1 h2
        rw [ha x (by rw [h1]; simp)]
      · rename_i s x ty tx h1 h2
        rw [ha s (by rw [h1]; simp), ha x (by rw [h1]; simp)]
      · rename_i s x ty tx h1 h2
        rw [ha s (by rw [h1]; simp), ha x (by rw [h1]; simp)]
      · rename_i m k ty tx h1 h2
        rw [ha m (by rw [h1]; simp), ha k (by rw [h1]; simp)]
      · rename_i x y h1
        rw [ha x (by rw [h1]; simp), ha y (by rw [h1]; simp)]
      · rfl
  case makeFunc fn first caps =>
    cases fn with
    | func f =>
      simp only [absOp]
      split
      · have : caps.toList.mapM (fun c => match ev t c with | .one l => some l | _ => none) = caps.toList.mapM (fun c => match ev t' c with | .one l => some l | _ => none) :=
          mapM_congr' fun x hx => by rw [h x (by simp [Op.operands]; right; simpa using hx)]
        exact congrArg (fun z => Option.bind z _) this
      · rfl
    | _ => rfl
  case build ty parts =>
    have : parts.toList.map (fun p => (p.1, ev t p.2)) = parts.toList.map fun p => (p.1, ev t' p.2) := List.map_congr_left fun p hp => by
      rw [h p.2 (by simp [Op.operands]; exact ⟨p.1, by simpa using hp⟩)]
    simp only [absOp, this]
  case buildSlice ty len parts =>
    have : parts.toList.map (fun p => (p.1, ev t p.2)) = parts.toList.map fun p => (p.1, ev t' p.2) := List.map_congr_left fun p hp => by
      rw [h p.2 (by simp [Op.operands]; exact ⟨p.1, by simpa using hp⟩)]
    simp only [absOp, this]
  case slice ty x lo hi mx =>
    have hx : ev t x = ev t' x := h x (by simp [Op.operands])
    have hlo : lo.map (ev t) = lo.map (ev t') := by cases lo with | none => rfl | some y => simp [h y (by simp [Op.operands])]
    have hhi : hi.map (ev t) = hi.map (ev t') := by cases hi with | none => rfl | some y => simp [h y (by simp [Op.operands])]
    have hmx : mx.map (ev t) = mx.map (ev t') := by cases mx with | none => rfl | some y => simp [h y (by simp [Op.operands])]
    simp only [absOp, hx, hlo, hhi, hmx]
  case pick c a b =>
    have h1 := h c (by simp [Op.operands])
    have h2 := h a (by simp [Op.operands])
    have h3 := h b (by simp [Op.operands])
    simp only [absOp, h1, h2, h3]
  case store ty a x =>
    have h1 := h a (by simp [Op.operands])
    have h2 := h x (by simp [Op.operands])
    simp only [absOp, h1, h2]
  case binOp op ty x y ty' =>
    have h1 := h x (by simp [Op.operands])
    have h2 := h y (by simp [Op.operands])
    simp only [absOp, h1, h2]
  case makeSlice ty a x =>
    have h1 := h a (by simp [Op.operands])
    have h2 := h x (by simp [Op.operands])
    simp only [absOp, h1, h2]
  case indexAddr ty a x =>
    have h1 := h a (by simp [Op.operands])
    have h2 := h x (by simp [Op.operands])
    simp only [absOp, h1, h2]
  case index ty a x =>
    have h1 := h a (by simp [Op.operands])
    have h2 := h x (by simp [Op.operands])
    simp only [absOp, h1, h2]
  case move x => simp only [absOp, h x (by simp [Op.operands])]
  case assign x => simp only [absOp, h x (by simp [Op.operands])]
  case box ty x => simp only [absOp, h x (by simp [Op.operands])]
  case load ty x => simp only [absOp, h x (by simp [Op.operands])]
  case nilCheck x => simp only [absOp, h x (by simp [Op.operands])]
  case unOp op ty x => simp only [absOp, h x (by simp [Op.operands])]
  case convert a b x => simp only [absOp, h x (by simp [Op.operands])]
  case fieldAddr s x f => simp only [absOp, h x (by simp [Op.operands])]
  case field s x f => simp only [absOp, h x (by simp [Op.operands])]
  case extract x i => simp only [absOp, h x (by simp [Op.operands])]
  case makeMap ty r => cases r <;> rfl
  case lookup ty m k ok =>
    have h1 := h m (by simp [Op.operands])
    have h2 := h k (by simp [Op.operands])
    simp only [absOp, h1, h2]
  case mapUpdate ty m k x =>
    have h1 := h m (by simp [Op.operands])
    have h2 := h k (by simp [Op.operands])
    have h3 := h x (by simp [Op.operands])
    simp only [absOp, h1, h2, h3]
  case mapEntry ty m k =>
    have h1 := h m (by simp [Op.operands])
    have h2 := h k (by simp [Op.operands])
    simp only [absOp, h1, h2]
  case entryStore ty m k x =>
    have h1 := h m (by simp [Op.operands])
    have h2 := h k (by simp [Op.operands])
    have h3 := h x (by simp [Op.operands])
    simp only [absOp, h1, h2, h3]
  all_goals rfl

theorem wantedA_congr {ops : Array Oper} {t t' : Tmps} {o : Oper} (h : ∀ x, x ∈ guardTmp ops o → tget t x = tget t' x) : wantedA ops t o = wantedA ops t' o := by
  unfold wantedA
  unfold guardTmp at h
  cases hg : o.guard with
  | none => rfl
  | some gw =>
    obtain ⟨g, want⟩ := gw
    rw [hg] at h
    simp only at h ⊢
    cases hd : (ops[g]?).bind (·.dst) with
    | none => rfl
    | some d =>
      rw [hd] at h
      simp only
      rw [h d (by simp)]

theorem ev_congr {t t' : Tmps} {o : Oper} (h : ∀ x, x ∈ opTmps o → tget t x = tget t' x) : ∀ x, x ∈ o.op.operands.toList → ev t x = ev t' x := by
  intro x hx
  cases x with
  | tmp i => exact h i (by unfold opTmps; rw [List.mem_filterMap]; exact ⟨_, hx, rfl⟩)
  | _ => rfl

section
variable {P : Program} {cf : CF}

theorem pure_any {t : Tmps} {o : Oper} (hk : okOf o = .pure) {v : V} {h0 h1 : Heap} {ws : List Nat} (e : absOp P cf none t h0 o = some (v, h1, ws)) (H : Heap) : absOp P cf none t H o = some (v, H, []) := by
  have go : ∀ {x : Option V}, pureR h0 x = some (v, h1, ws) → pureR H x = some (v, H, []) := by
    intro x h
    obtain ⟨h1, _, _⟩ := pureR_some h
    simp [pureR, h1]
  obtain ⟨dst, op, type, pos, after, guard⟩ := o
  cases op <;> simp only [okOf, reduceCtorEq] at hk
  case call c => obtain ⟨callee, args, tys⟩ := c; cases callee <;> simp only [okOf, reduceCtorEq] at hk
  case pick c a b =>
    simp only [absOp] at e ⊢
    split at e
    · exact go e
    · exact go e
    · cases e
  case nilCheck x =>
    simp only [absOp] at e ⊢
    split at e
    · exact go e
    · exact go e
    · exact go e
    · cases e
  case makeFunc fn first caps =>
    cases fn with
    | func f =>
      simp only [absOp] at e ⊢
      split at e
      · rename_i h0
        rw [if_pos h0]
        obtain ⟨ls, e1, e2⟩ := Option.bind_eq_some_iff.1 e
        rw [e1, Option.bind_some]; exact go e2
      · cases e
    | _ => simp [absOp] at e
  case field s x f =>
    simp only [absOp] at e ⊢
    split at e
    · exact go e
    · cases e
  case extract x i =>
    simp only [absOp] at e ⊢
    split at e
    · exact go e
    · cases e
  all_goals (simp only [absOp] at e ⊢; exact go e)

theorem allocR_any {slot : Nat} {h h' : Heap} {ao : AO} {mk : Nat → V} {v : V} {ws : List Nat} (e : allocR (some slot) h ao mk = some (v, h', ws)) :
    h[slot]? = some none ∧ h' = h.set slot (some ao) ∧ ws = [] ∧ ∀ H : Heap, H[slot]? = some none → allocR (some slot) H ao mk = some (v, H.set slot (some ao), []) := by
  unfold allocR at e ⊢
  obtain ⟨r, e1, e2⟩ := Option.map_eq_some_iff.1 e
  cases e2
  simp only [put] at e1
  split at e1
  · rename_i hn
    cases e1
    exact ⟨hn, rfl, rfl, fun H hH => by simp [put, hH]⟩
  · cases e1

theorem alloc_any {slot : Nat} {t : Tmps} {o : Oper} (hk : okOf o = .alloc) {h h' : Heap} {v : V} {ws : List Nat} (e : absOp P cf (some slot) t h o = some (v, h', ws)) :
    ∃ ao, h[slot]? = some none ∧ h' = h.set slot (some ao) ∧ ws = [] ∧ ∀ H : Heap, H[slot]? = some none → absOp P cf (some slot) t H o = some (v, H.set slot (some ao), []) := by
  obtain ⟨dst, op, type, pos, after, guard⟩ := o
  cases op <;> simp only [okOf, reduceCtorEq] at hk
  case call c => obtain ⟨callee, args, tys⟩ := c; cases callee <;> simp only [okOf, reduceCtorEq] at hk
  case alloc el =>
    simp only [absOp] at e ⊢
    obtain ⟨z, e1, e2⟩ := Option.bind_eq_some_iff.1 e
    obtain ⟨k1, k2, k3, k4⟩ := allocR_any e2
    exact ⟨_, k1, k2, k3, fun H hH => by rw [e1, Option.bind_some]; exact k4 H hH⟩
  case box el x =>
    simp only [absOp] at e ⊢
    split at e
    · obtain ⟨k1, k2, k3, k4⟩ := allocR_any e; exact ⟨_, k1, k2, k3, k4⟩
    · obtain ⟨k1, k2, k3, k4⟩ := allocR_any e; exact ⟨_, k1, k2, k3, k4⟩
    · cases e
  case buildSlice ty len parts =>
    simp only [absOp] at e ⊢
    unfold buildSliceV at e ⊢
    obtain ⟨_, a1, e1⟩ := Option.bind_eq_some_iff.1 e
    obtain ⟨_, a2, e2⟩ := Option.bind_eq_some_iff.1 e1
    obtain ⟨_, a3, e3⟩ := Option.bind_eq_some_iff.1 e2
    simp only [a1, a2, a3, Option.bind_some]
    split at e3
    · cases e3
    · rename_i hg
      simp only [if_neg hg]
      obtain ⟨_, a4, e4⟩ := Option.bind_eq_some_iff.1 e3
      simp only [a4, Option.bind_some]
      obtain ⟨k1, k2, k3, k4⟩ := allocR_any e4; exact ⟨_, k1, k2, k3, k4⟩
  case makeSlice ty l c =>
    simp only [absOp] at e ⊢
    unfold makeSliceV at e ⊢
    obtain ⟨_, a1, e1⟩ := Option.bind_eq_some_iff.1 e
    obtain ⟨_, a2, e2⟩ := Option.bind_eq_some_iff.1 e1
    obtain ⟨_, a3, e3⟩ := Option.bind_eq_some_iff.1 e2
    obtain ⟨_, a4, e4⟩ := Option.bind_eq_some_iff.1 e3
    obtain ⟨_, a5, e5⟩ := Option.bind_eq_some_iff.1 e4
    simp only [a1, a2, a3, a4, a5, Option.bind_some]
    split at e5
    · rename_i hg
      simp only [if_pos hg]
      obtain ⟨k1, k2, k3, k4⟩ := allocR_any e5; exact ⟨_, k1, k2, k3, k4⟩
    · cases e5
  case makeMap ty r =>
    cases r with
    | none => simp only [absOp] at e ⊢; obtain ⟨k1, k2, k3, k4⟩ := allocR_any e; exact ⟨_, k1, k2, k3, k4⟩
    | some x => cases e

abbrev Eff := Nat → Option AO → Option AO

def appE (e : Eff) (i : Nat) : Heap → Heap
  | [] => []
  | o :: h => e i o :: appE e (i + 1) h

theorem appE_get (e : Eff) : ∀ (H : Heap) (i k : Nat), (appE e i H)[k]? = (H[k]?).map (e (i + k))
  | [], i, k => by simp [appE]
  | o :: H, i, 0 => by simp [appE]
  | o :: H, i, k + 1 => by
    simp only [appE, List.getElem?_cons_succ]
    rw [appE_get e H (i + 1) k, show i + 1 + k = i + (k + 1) by omega]

theorem appE_length (e : Eff) : ∀ (H : Heap) (i : Nat), (appE e i H).length = H.length
  | [], i => rfl
  | o :: H, i => by simp [appE, appE_length e H]

theorem appE_id (H : Heap) : appE (fun _ o => o) 0 H = H := by
  apply List.ext_getElem?
  intro k
  rw [appE_get]; simp

def putE (id : Nat) (ao : Option AO) : Eff := fun k o => if k = id then ao else o

theorem appE_put (H : Heap) (id : Nat) (ao : Option AO) : appE (putE id ao) 0 H = H.set id ao := by
  apply List.ext_getElem?
  intro k
  rw [appE_get, Nat.zero_add, List.getElem?_set]
  by_cases hk : id = k
  · subst hk
    by_cases hl : id < H.length
    · simp [putE, hl]
    · simp [hl, List.getElem?_eq_none (Nat.le_of_not_lt hl)]
  · have : putE id ao k = fun o => o := by funext o; simp [putE, Ne.symm hk]
    rw [this, if_neg hk]; simp

def cellE (id e off : Nat) (new : List Leaf) : Eff := fun k o =>
  if k = id then match o with
    | some (.row esz elems) => some (.row esz (match elems[e]? with
      | some cs => if off + new.length ≤ cs.length then elems.set e (putCells cs off new) else elems
      | none => elems))
    | o => o
  else o

def Shape (H : Heap) (id sz e n : Nat) : Prop := ∃ esz elems cs, H[id]? = some (some (.row esz elems)) ∧ elems.length = sz ∧ elems[e]? = some cs ∧ n ≤ cs.length

theorem wr_any {id sz e off : Nat} {new : List Leaf} {h h' : Heap} {ws : List Nat} (q : wr h (.ptr id sz e off) new = some (h', ws)) :
    Shape h id sz e (off + new.length) ∧ h' = appE (cellE id e off new) 0 h ∧ ws = [id] ∧ ∀ H, Shape H id sz e (off + new.length) → wr H (.ptr id sz e off) new = some (appE (cellE id e off new) 0 H, [id]) := by
  have main : ∀ H : Heap, Shape H id sz e (off + new.length) → wr H (.ptr id sz e off) new = some (appE (cellE id e off new) 0 H, [id]) := by
    rintro H ⟨esz, elems, cs, h1, h2, h3, h4⟩
    have hr : rowAt H id sz = some (esz, elems) := by simp [rowAt, h1, h2]
    simp only [wr, hr, Option.bind_some, h3, h4, if_true, Option.some.injEq, Prod.mk.injEq, and_true]
    apply List.ext_getElem?
    intro k
    rw [appE_get, Nat.zero_add, List.getElem?_set]
    by_cases hk : id = k
    · subst hk
      have hl : id < H.length := (List.getElem?_eq_some_iff.1 h1).1
      have hg : H[id] = some (.row esz elems) := (List.getElem?_eq_some_iff.1 h1).2
      simp [hl, cellE, hg, h3, h4]
    · have : cellE id e off new k = fun o => o := by funext o; simp [cellE, Ne.symm hk]
      rw [this, if_neg hk]; simp
  have hq := q
  unfold wr at q
  simp only at q
  obtain ⟨r0, e1, e2⟩ := Option.bind_eq_some_iff.1 q
  obtain ⟨ce, e3, e4⟩ := Option.bind_eq_some_iff.1 e2
  obtain ⟨g1, g2⟩ := rowAt_some e1
  split at e4
  · rename_i hfit
    have hS : Shape h id sz e (off + new.length) := ⟨r0.1, r0.2, ce, g1, g2, e3, hfit⟩
    have := main h hS
    rw [hq] at this
    cases this
    exact ⟨hS, rfl, rfl, main⟩
  · cases e4

theorem store_any {t : Tmps} {o : Oper} {ty : TypeId} {a x : Operand} (ho : o.op = .store ty a x) {id sz e off : Nat} (ha : ev t a = .one (.ptr id sz e off)) {h h' : Heap} {v : V} {ws : List Nat} (q : absOp P cf none t h o = some (v, h', ws)) :
    v = .junk ∧ Shape h id sz e (off + (ev t x).cells.length) ∧ h' = appE (cellE id e off (ev t x).cells) 0 h ∧ ws = [id] ∧
      ∀ H, Shape H id sz e (off + (ev t x).cells.length) → absOp P cf none t H o = some (.junk, appE (cellE id e off (ev t x).cells) 0 H, [id]) := by
  obtain ⟨dst, op, type, pos, after, guard⟩ := o
  simp only at ho
  subst ho
  simp only [absOp, ha] at q ⊢
  obtain ⟨n, a1, e1⟩ := Option.bind_eq_some_iff.1 q
  rw [a1]; simp only [Option.bind_some]
  cases hx : ev t x with
  | junk => rw [hx] at e1; cases e1
  | tup _ => rw [hx] at e1; cases e1
  | one y =>
    rw [hx] at e1
    simp only at e1 ⊢
    split at e1
    · rename_i hn
      obtain ⟨r, e2, e3⟩ := Option.map_eq_some_iff.1 e1
      cases e3
      obtain ⟨k1, k2, k3, k4⟩ := wr_any (h' := r.1) (ws := r.2) (new := [y]) e2
      exact ⟨rfl, k1, k2, k3, fun H hH => by rw [if_pos hn, k4 H hH]; rfl⟩
    · cases e1
  | agg cs =>
    rw [hx] at e1
    simp only at e1 ⊢
    split at e1
    · rename_i hn
      obtain ⟨r, e2, e3⟩ := Option.map_eq_some_iff.1 e1
      cases e3
      obtain ⟨k1, k2, k3, k4⟩ := wr_any (h' := r.1) (ws := r.2) (new := cs) e2
      exact ⟨rfl, k1, k2, k3, fun H hH => by rw [if_pos hn, k4 H hH]; rfl⟩
    · cases e1

def Agree (h H : Heap) (ids : List Nat) : Prop := ∀ id, id ∈ ids → H[id]? = h[id]?

theorem Agree.left {h H : Heap} {a b : List Nat} (g : Agree h H (a ++ b)) : Agree h H a := fun id hi => g id (List.mem_append_left _ hi)
theorem Agree.right {h H : Heap} {a b : List Nat} (g : Agree h H (a ++ b)) : Agree h H b := fun id hi => g id (List.mem_append_right _ hi)

theorem rowAt_agree {h H : Heap} {id sz : Nat} (g : H[id]? = h[id]?) : rowAt H id sz = rowAt h id sz := by simp only [rowAt, g]

theorem rd_agree {h H : Heap} {l : Leaf} (g : Agree h H (refsL l)) (n : Nat) : rd H l n = rd h l n := by
  cases l <;> try rfl
  simp only [rd, rowAt_agree (g _ (List.mem_singleton.2 rfl))]

theorem view_agree {h H : Heap} {l : Leaf} (g : Agree h H (refsL l)) : view H l = view h l := by
  cases l <;> try rfl
  simp only [view, rowAt_agree (g _ (List.mem_singleton.2 rfl))]

theorem lenL_agree {h H : Heap} {l : Leaf} (g : Agree h H (refsL l)) : lenL H l = lenL h l := by
  cases l <;> try rfl
  simp only [lenL, g _ (List.mem_singleton.2 rfl)]

theorem srcOf_agree {h H : Heap} {x : V} (g : Agree h H (refsV x)) (size : Nat) (tx : TypeId) : srcOf P H size tx x = srcOf P h size tx x := by
  unfold srcOf
  split
  · rw [view_agree g]
  · rfl

theorem convertV_agree {h H : Heap} {x : V} (g : Agree h H (refsV x)) (s d : TypeId) : convertV P H s d x = convertV P h s d x := by
  unfold convertV
  split
  · rfl
  · rfl
  · split
    · rw [view_agree g]
    · rfl
  · rfl
  · rfl

def Same (touched : List Nat) (h' H H' : Heap) : Prop := H'.length = H.length ∧ (∀ id, id ∈ touched → H'[id]? = h'[id]?) ∧ ∀ id, id ∉ touched → H'[id]? = H[id]?

theorem Same.refl (h H : Heap) : Same [] h H H := ⟨rfl, fun _ h => by simp at h, fun _ _ => rfl⟩
theorem Same.slot {h H : Heap} {slot : Nat} (g : H[slot]? = h[slot]?) : Same [slot] h H H := ⟨rfl, fun id hi => by simp at hi; subst hi; exact g, fun _ _ => rfl⟩
theorem Same.set {h H : Heap} (hl : H.length = h.length) (id : Nat) (ao : Option AO) : Same [id] (h.set id ao) H (H.set id ao) := by
  refine ⟨by simp, fun k hk => ?_, fun k hk => ?_⟩
  · simp at hk; subst hk; simp [List.getElem?_set, hl]
  · rw [List.getElem?_set_ne]; rintro rfl; simp at hk
theorem Same.slotSet {h H : Heap} (hl : H.length = h.length) {slot : Nat} (g : H[slot]? = h[slot]?) (id : Nat) (ao : Option AO) : Same [slot, id] (h.set id ao) H (H.set id ao) := by
  obtain ⟨h1, h2, h3⟩ := Same.set hl id ao
  refine ⟨h1, fun k hk => ?_, fun k hk => h3 k fun hm => hk (List.mem_cons_of_mem _ hm)⟩
  by_cases hi : k = id
  · subst hi; exact h2 k (by simp)
  · simp [hi] at hk; subst hk
    rw [List.getElem?_set_ne (Ne.symm hi), List.getElem?_set_ne (Ne.symm hi)]; exact g

theorem copyV_agree {h H h' : Heap} {t tx : TypeId} {d x v : V} {ws : List Nat} (hl : H.length = h.length) (gd : Agree h H (refsV d)) (gx : Agree h H (refsV x)) (e : copyV P h t tx d x = some (v, h', ws)) :
    h'.length = h.length ∧ ∃ H', copyV P H t tx d x = some (v, H', ws) ∧ Same ws h' H H' := by
  unfold copyV at e ⊢
  obtain ⟨_, a1, e1⟩ := Option.bind_eq_some_iff.1 e
  obtain ⟨_, a2, e2⟩ := Option.bind_eq_some_iff.1 e1
  obtain ⟨_, a3, e3⟩ := Option.bind_eq_some_iff.1 e2
  simp only [a1, a2, Option.bind_some, srcOf_agree gx, a3]
  split at e3
  · cases e3
  · rename_i hn
    simp only [if_neg hn]
    cases d with
    | one l =>
      cases l with
      | sl id esz sz off len =>
        simp only at e3 ⊢
        obtain ⟨r, a4, e4⟩ := Option.bind_eq_some_iff.1 e3
        rw [rowAt_agree (gd _ (by simp [refsV, refsL])), a4, Option.bind_some]
        split at e4
        · cases e4
        · rename_i hm
          cases e4
          rw [if_neg hm]
          exact ⟨by simp, _, rfl, Same.set hl _ _⟩
      | _ => cases e3
    | _ => cases e3

theorem allocR_agree {slot : Nat} {h H h' : Heap} {ao : AO} {mk : Nat → V} {v : V} {ws : List Nat} (hl : H.length = h.length) (g : H[slot]? = h[slot]?) (e : allocR (some slot) h ao mk = some (v, h', ws)) :
    h'.length = h.length ∧ ∃ H', allocR (some slot) H ao mk = some (v, H', ws) ∧ Same (slot :: ws) h' H H' := by
  obtain ⟨k1, k2, k3, k4⟩ := allocR_any e
  subst k2 k3
  exact ⟨by simp, _, k4 H (by rw [g]; exact k1), Same.set hl _ _⟩

theorem appendV_agree {h H h' : Heap} {slot : Nat} {t tx : TypeId} {s x v : V} {ws : List Nat} (hl : H.length = h.length) (gs : Agree h H (refsV s)) (gx : Agree h H (refsV x)) (g : H[slot]? = h[slot]?) (e : appendV P (some slot) h t tx s x = some (v, h', ws)) :
    h'.length = h.length ∧ ∃ H', appendV P (some slot) H t tx s x = some (v, H', ws) ∧ Same (slot :: ws) h' H H' := by
  unfold appendV at e ⊢
  obtain ⟨_, a1, e1⟩ := Option.bind_eq_some_iff.1 e
  obtain ⟨_, a2, e2⟩ := Option.bind_eq_some_iff.1 e1
  obtain ⟨_, a3, e3⟩ := Option.bind_eq_some_iff.1 e2
  obtain ⟨_, a4, e4⟩ := Option.bind_eq_some_iff.1 e3
  simp only [a1, a2, a3, Option.bind_some, srcOf_agree gx, a4]
  split at e4
  · cases e4
  rename_i hn
  simp only [if_neg hn]
  cases s with
  | one l =>
    cases l with
    | nils =>
      simp only at e4 ⊢
      split at e4
      · rename_i h0; cases e4; rw [if_pos h0]; exact ⟨rfl, _, rfl, Same.slot g⟩
      · rename_i h0
        rw [if_neg h0]
        split at e4
        · rename_i h1; rw [if_pos h1]; exact allocR_agree hl g e4
        · cases e4
    | zsl =>
      simp only at e4 ⊢
      split at e4
      · rename_i h0; cases e4; rw [if_pos h0]; exact ⟨rfl, _, rfl, Same.slot g⟩
      · rename_i h0
        rw [if_neg h0]
        split at e4
        · rename_i h1; rw [if_pos h1]; exact allocR_agree hl g e4
        · cases e4
    | sl id esz sz off len =>
      simp only at e4 ⊢
      obtain ⟨r, a5, e5⟩ := Option.bind_eq_some_iff.1 e4
      rw [rowAt_agree (gs _ (by simp [refsV, refsL])), a5, Option.bind_some]
      split at e5
      · cases e5
      rename_i h0
      rw [if_neg h0]
      split at e5
      · rename_i h1
        rw [if_pos h1]
        split at e5
        · rename_i h2; cases e5; rw [if_pos h2]; exact ⟨rfl, _, rfl, Same.slot g⟩
        · cases e5
      · rename_i h1
        rw [if_neg h1]
        split at e5
        · rename_i h2
          rw [if_pos h2]
          split at e5
          · rename_i h3; cases e5; rw [if_pos h3]; exact ⟨by simp, _, rfl, Same.slotSet hl g _ _⟩
          · cases e5
        · rename_i h2
          rw [if_neg h2]
          split at e5
          · rename_i h3; cases e5; rw [if_pos h3]; exact ⟨by simp, _, rfl, Same.slotSet hl g _ _⟩
          · cases e5
    | _ => cases e4
  | _ => cases e4

theorem mapOf_agree {h H : Heap} {m : V} (g : Agree h H (refsV m)) : mapOf H m = mapOf h m := by
  cases m with
  | one l => cases l with
    | map id =>
      have : H[id]? = h[id]? := g id (by simp [refsV, refsL])
      simp only [mapOf, this]
    | _ => rfl
  | _ => rfl
theorem mapUpdV_agree {h H h' : Heap} {t : TypeId} {m k x v : V} {ws : List Nat} (hl : H.length = h.length) (g : Agree h H (refsV m)) (e : mapUpdV P h t m k x = some (v, h', ws)) :
    h'.length = h.length ∧ ∃ H', mapUpdV P H t m k x = some (v, H', ws) ∧ Same ws h' H H' := by
  unfold mapUpdV at e ⊢
  obtain ⟨q, a1, e1⟩ := Option.bind_eq_some_iff.1 e
  simp only [a1, Option.bind_some]
  split at e1
  · rename_i id
    have hg : H[id]? = h[id]? := g id (by simp [refsV, refsL])
    (try simp only)
    split at e1
    · rename_i lk
      (try simp only)
      split at e1
      · rename_i hk
        rw [if_pos hk]
        split at e1
        · rename_i ck es he
          obtain ⟨es', a2, e2⟩ := Option.map_eq_some_iff.1 e1
          cases e2
          rw [hg, he]
          simp only
          rw [a2]
          exact ⟨by simp, _, rfl, Same.set hl id _⟩
        · cases e1
      · cases e1
    · cases e1
  · cases e1
theorem delV_agree {h H h' : Heap} {t : TypeId} {m k v : V} {ws : List Nat} (hl : H.length = h.length) (g : Agree h H (refsV m)) (e : delV P h t m k = some (v, h', ws)) :
    h'.length = h.length ∧ ∃ H', delV P H t m k = some (v, H', ws) ∧ Same ws h' H H' := by
  unfold delV at e ⊢
  obtain ⟨q, a1, e1⟩ := Option.bind_eq_some_iff.1 e
  simp only [a1, Option.bind_some]
  split at e1
  · rename_i id
    have hg : H[id]? = h[id]? := g id (by simp [refsV, refsL])
    (try simp only)
    split at e1
    · rename_i lk
      (try simp only)
      split at e1
      · rename_i hk
        rw [if_pos hk]
        split at e1
        · rename_i ck es he
          obtain ⟨es', a2, e2⟩ := Option.map_eq_some_iff.1 e1
          cases e2
          rw [hg, he]
          simp only
          rw [a2]
          exact ⟨by simp, _, rfl, Same.set hl id _⟩
        · cases e1
      · cases e1
    · cases e1
  · cases e1

theorem mapEntV_agree {h H h' : Heap} {t : TypeId} {m k v : V} {ws : List Nat} (hl : H.length = h.length) (g : Agree h H (refsV m)) (e : mapEntV P h t m k = some (v, h', ws)) :
    h'.length = h.length ∧ ∃ H', mapEntV P H t m k = some (v, H', ws) ∧ Same ws h' H H' := by
  unfold mapEntV at e ⊢
  obtain ⟨q, a1, e1⟩ := Option.bind_eq_some_iff.1 e
  simp only [a1, Option.bind_some]
  split at e1
  · rename_i id
    have hg : H[id]? = h[id]? := g id (by simp [refsV, refsL])
    (try simp only)
    split at e1
    · rename_i lk
      (try simp only)
      split at e1
      · rename_i hk
        rw [if_pos hk]
        split at e1
        · rename_i ck es he
          obtain ⟨es', a2, e2⟩ := Option.map_eq_some_iff.1 e1
          cases e2
          rw [hg, he]
          (try simp only)
          rw [a2]
          exact ⟨by simp, _, rfl, Same.set hl id _⟩
        · cases e1
      · cases e1
    · cases e1
  · cases e1
theorem entStoV_agree {h H h' : Heap} {m b x v : V} {ws : List Nat} (hl : H.length = h.length) (g : Agree h H (refsV m)) (e : entStoV h m b x = some (v, h', ws)) :
    h'.length = h.length ∧ ∃ H', entStoV H m b x = some (v, H', ws) ∧ Same ws h' H H' := by
  unfold entStoV at e ⊢
  split at e
  · rename_i id
    have hg : H[id]? = h[id]? := g id (by simp [refsV, refsL])
    (try simp only)
    split at e
    · rename_i n
      (try simp only)
      split at e
      · rename_i ck es he
        obtain ⟨es', a2, e2⟩ := Option.map_eq_some_iff.1 e
        cases e2
        rw [hg, he]
        (try simp only)
        rw [a2]
        exact ⟨by simp, _, rfl, Same.set hl id _⟩
      · cases e
    · cases e
  · cases e

theorem heap_any {slot : Nat} {t : Tmps} {o : Oper} (hk : okOf o = .heap) {h h' H : Heap} {v : V} {ws : List Nat} (hl : H.length = h.length)
    (g : Agree h H ((o.op.operands.toList.map (ev t)).flatMap refsV)) (gs : needsSlot o = true → H[slot]? = h[slot]?) (e : absOp P cf (some slot) t h o = some (v, h', ws)) :
    h'.length = h.length ∧ ∃ H', absOp P cf (some slot) t H o = some (v, H', ws) ∧ Same (if needsSlot o then slot :: ws else ws) h' H H' := by
  obtain ⟨dst, op, type, pos, after, guard⟩ := o
  have gop : ∀ x, x ∈ op.operands.toList → Agree h H (refsV (ev t x)) := fun x hx id hid => g id (List.mem_flatMap.2 ⟨_, List.mem_map.2 ⟨x, hx, rfl⟩, hid⟩)
  have pr : ∀ {x : Option V}, pureR h x = some (v, h', ws) → h'.length = h.length ∧ ∃ H', pureR H x = some (v, H', ws) ∧ Same ws h' H H' := by
    intro x hx
    obtain ⟨h1, h2, h3⟩ := pureR_some hx
    subst h2 h3
    exact ⟨rfl, H, by simp [pureR, h1], Same.refl _ _⟩
  cases op <;> simp only [okOf, reduceCtorEq] at hk
  case load ty a =>
    have ga := gop a (by simp [Op.operands])
    simp only [needsSlot, Bool.false_eq_true, if_false]
    simp only [absOp] at e ⊢
    cases ha : ev t a with
    | one l =>
      rw [ha] at e ga
      simp only at e ⊢
      obtain ⟨_, a1, e1⟩ := Option.bind_eq_some_iff.1 e
      obtain ⟨_, a2, e2⟩ := Option.bind_eq_some_iff.1 e1
      obtain ⟨_, a3, e3⟩ := Option.bind_eq_some_iff.1 e2
      simp only [a1, a2, Option.bind_some, rd_agree ga, a3]
      exact pr e3
    | _ => rw [ha] at e; cases e
  case convert a b x =>
    have gx := gop x (by simp [Op.operands])
    simp only [needsSlot, Bool.false_eq_true, if_false]
    simp only [absOp] at e ⊢
    rw [convertV_agree gx]
    exact pr e
  case lookup ty m k ok =>
    have gm := gop m (by simp [Op.operands])
    simp only [needsSlot, Bool.false_eq_true, if_false]
    simp only [absOp, lookupV] at e ⊢
    rw [mapOf_agree gm]
    exact pr e
  case mapUpdate ty m k x =>
    have gm := gop m (by simp [Op.operands])
    simp only [needsSlot, Bool.false_eq_true, if_false]
    simp only [absOp] at e ⊢
    exact mapUpdV_agree hl gm e
  case mapEntry ty m k =>
    have gm := gop m (by simp [Op.operands])
    simp only [needsSlot, Bool.false_eq_true, if_false]
    simp only [absOp] at e ⊢
    exact mapEntV_agree hl gm e
  case entryStore ty m b x =>
    have gm := gop m (by simp [Op.operands])
    simp only [needsSlot, Bool.false_eq_true, if_false]
    simp only [absOp] at e ⊢
    exact entStoV_agree hl gm e
  case call c =>
    obtain ⟨callee, args, tys⟩ := c
    cases callee with
    | value f => simp only [okOf, reduceCtorEq] at hk
    | invoke r m => simp only [okOf, reduceCtorEq] at hk
    | builtin b =>
      have ga : ∀ x, x ∈ args.toList → Agree h H (refsV (ev t x)) := fun x hx => gop x (by simp [Op.operands, Call.operands]; simpa using hx)
      simp only [absOp] at e ⊢
      split at e
      · rename_i x ty h1 h2
        simp only [needsSlot, Bool.false_eq_true, if_false]
        have gx := ga x (by rw [h1]; simp)
        cases hx : ev t x with
        | one l =>
          rw [hx] at e gx
          simp only at e ⊢
          split at e
          · rename_i h0
            rw [if_pos h0, lenL_agree gx]
            exact pr e
          · cases e
        | _ => rw [hx] at e; cases e
      · rename_i s x ty tx h1 h2
        simp only [needsSlot, if_true]
        exact appendV_agree hl (ga s (by rw [h1]; simp)) (ga x (by rw [h1]; simp)) (gs rfl) e
      · rename_i s x ty tx h1 h2
        simp only [needsSlot, Bool.false_eq_true, if_false]
        exact copyV_agree hl (ga s (by rw [h1]; simp)) (ga x (by rw [h1]; simp)) e
      · rename_i m k ty tx h1 h2
        simp only [needsSlot, Bool.false_eq_true, if_false]
        exact delV_agree hl (ga m (by rw [h1]; simp)) e
      · simp only [needsSlot, Bool.false_eq_true, if_false]
        exact pr e
      · cases e
end
end Go.Proofs.YtkbdhjfjbkmkcaaGreat.Abs
