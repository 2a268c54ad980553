/- The abstract machine: code does what the machine says, if calls and drawn regions do. -/
import Derived.Test.YtdkknhpdjcdmfaaGreatJT13
import Derived.Scope
set_option linter.unusedSimpArgs false
set_option linter.unusedVariables false
namespace Go.Proofs.YtdkknhpdjcdmfaaGreat.Abs
open Go Go.RowKit

def CallR (B : Nat) (M : Mem) (w : World) (v : V) (H' : Heap) : Ending → World → Prop
  | .returned u, w' => ∃ M', Ext M M' ∧ Inv B M' H' w' ∧ VV M' v u ∧ Below B w w'
  | _, _ => False

def CFOK (P : Program) (cf : CF) : Prop :=
  ∀ (B : Nat) (M : Mem) (H : Heap) (w : World) (f : FuncId) (args : List V) (v : V) (H' : Heap) (ws : List Nat) (vs : Array Value),
    Inv B M H w → VL M args vs → cf f args H = some (v, H', ws) → Calls P f vs w (CallR B M w v H')

def AX.is : AX → Exit → Prop
  | .normal, .normal => True
  | .exit i, .exit j => i = j
  | .goto i, .goto j => i = j
  | .ret, .ret => True
  | _, _ => False

def CPost (B : Nat) (M : Mem) (w : World) (N : Nat) (x : AX) (s : St) (e : Exit) (a' : Act) (w' : World) : Prop :=
  x.is e ∧ a'.defers = [] ∧ a'.tmps.size = N ∧ ∃ M', Ext M M' ∧ Inv B M' s.heap w' ∧ TR M' s.tmps a'.tmps ∧ Below B w w'

structure At (B : Nat) (M : Mem) (N : Nat) (s : St) (a : Act) (w : World) : Prop where
  inv : Inv B M s.heap w
  tr : TR M s.tmps a.tmps
  defers : a.defers = []
  size : a.tmps.size = N

theorem CPost.trans {B N : Nat} {M M1 : Mem} {w w1 : World} {x : AX} {s : St} {e : Exit} {a' : Act} {w' : World} (hE : Ext M M1) (hB : Below B w w1) (h : CPost B M1 w1 N x s e a' w') : CPost B M w N x s e a' w' := by
  obtain ⟨h1, h2, h3, M', h4, h5, h6, h7⟩ := h
  exact ⟨h1, h2, h3, M', hE.trans h4, h5, h6, hB.trans h7⟩

theorem tget_cons (p : Nat × V) (r : Tmps) (i : Nat) : tget (p :: r) i = if p.1 = i then p.2 else tget r i := by
  simp only [tget]
  by_cases h : p.1 = i
  · subst h; simp
  · have : Nat.beq p.1 i = false := by
      cases hb : Nat.beq p.1 i with
      | false => rfl
      | true => exact (h (Nat.eq_of_beq_eq_true hb)).elim
    rw [this]; simp [h]

theorem TR_put {M : Mem} {N : Nat} {t : Tmps} {a : Act} (h : TR M t a.tmps) (hN : a.tmps.size = N) (dst : Option Nat) {v : V} {u : Value} (hv : VV M v u) : TR M (setD N t dst v) (a.put dst u).tmps ∧ (a.put dst u).tmps.size = N ∧ (a.put dst u).defers = a.defers := by
  cases dst with
  | none => exact ⟨h, hN, rfl⟩
  | some d =>
    refine ⟨fun i => ?_, by simp [Act.put, hN], rfl⟩
    simp only [setD, Act.put]
    split
    · rename_i hd
      rw [tget_cons]
      by_cases hi : d = i
      · subst hi
        simp only [if_true]
        simpa [Array.getD, hN, hd] using hv
      · simp only [hi, if_false]
        have := h i
        have e1 : (a.tmps.setIfInBounds d u).getD i undef = a.tmps.getD i undef := by
          rw [← getD_toList, ← getD_toList]
          simp [List.getD, List.getElem?_set, hi]
        rw [e1]; exact this
    · rename_i hd
      have : a.tmps.setIfInBounds d u = a.tmps := by
        apply Array.ext
        · simp
        · intro j h1 h2
          rw [Array.getElem_setIfInBounds]
          rw [if_neg (by simp at h1; omega)]
      rw [this]; exact h i

theorem wanted_ok {M : Mem} {t : Tmps} {a : Act} (h : TR M t a.tmps) {ops : Array Oper} {o : Oper} {b : Bool} (e : wantedA ops t o = some b) : Region.wanted o (yielded ops a.tmps) = b := by
  unfold wantedA at e
  unfold Region.wanted
  split at e
  · rename_i hg
    rw [hg]; cases e; rfl
  · rename_i j want hg
    rw [hg]
    simp only
    split at e
    · rename_i d hd
      have hv := h d
      have hy : yielded ops a.tmps j = match a.tmps[d]? with | some (.bool b) => some b | _ => none := by
        simp only [yielded, hd, Option.bind_some]
        rfl
      rw [hy]
      split at e
      · rename_i b' hb
        rw [hb] at hv
        have h1 := hv.one_inv.bool_inv
        have h2 : a.tmps[d]? = some (.bool b') := by
          by_cases hlt : d < a.tmps.size
          · simpa [Array.getD, hlt] using h1
          · simp [Array.getD, hlt, undef] at h1
        rw [h2]
        cases e
        cases b' <;> cases want <;> rfl
      · rename_i vs hb
        rw [hb] at hv
        cases e
        obtain ⟨arr, h1, _⟩ := hv.tup_inv
        have h2 : (match a.tmps[d]? with | some (.bool b) => some b | _ => none) = (none : Option Bool) := by
          by_cases hlt : d < a.tmps.size
          · have : a.tmps[d]? = some (.tuple arr) := by simpa [Array.getD, hlt] using h1
            rw [this]
          · simp [hlt]
        rw [h2]; cases want <;> rfl
      · cases e
    · cases e

section
variable {P : Program} {cf : CF} (hcf : CFOK P cf) {B : Nat}
include hcf

theorem oper_wp {M : Mem} {N : Nat} {s : St} {a : Act} {w : World} (hA : At B M N s a w) {slot : Option Nat} {o : Oper} {v : V} {H' : Heap} {ws : List Nat}
    (e : absOp P cf slot s.tmps s.heap o = some (v, H', ws)) {next : Act → World → Prop} {Q : Exit → Act → World → Prop}
    (hn : ∀ M' u w', Ext M M' → Inv B M' H' w' → VV M' v u → Below B w w' → next (a.put o.dst u) w') : o.wp P a w next Q := by
  unfold Oper.wp
  rcases op_sound hA.inv hA.tr e with ⟨M', w', u, h1, h2, h3, h4, h5 | ⟨h5, rfl⟩⟩ | ⟨g, args, vs, h1, h2, h3, h4⟩
  · rw [h5]; exact hn M' u w' h1 h2 h3 h4
  · rw [h5]; exact hn M' undef w' h1 h2 h3 h4
  · rw [h4, Oper.upon_enter]
    refine (hcf B M s.heap w g args v H' ws vs hA.inv h3 h2).mono ?_
    intro e' w' hr
    cases e' with
    | returned u => obtain ⟨M', k1, k2, k3, k4⟩ := hr; exact hn M' u w' k1 k2 k3 k4
    | panicked _ => exact hr.elim
    | outgrown => exact hr.elim

theorem absOps_sound {M0 : Mem} {N : Nat} {w0 : World} {ops : Array Oper} {Q : Exit → Act → World → Prop} : ∀ (l : List Oper) (k : Nat) (M : Mem) (s s' : St) (a : Act) (w : World), (∀ j, l[j]? = ops[k + j]?) → At B M N s a w →
    Ext M0 M → Below B w0 w → absOps P cf N ops l s = some s' → (∀ a' w', CPost B M0 w0 N .normal s' .normal a' w' → Q .normal a' w') → wpOps P ops Q (List.range' k l.length) a w
  | [], k, M, s, s', a, w, hl, hA, hE, hB, e, hQ => by
    cases e
    exact hQ a w ⟨trivial, hA.defers, hA.size, M, hE, hA.inv, hA.tr, hB⟩
  | o :: l, k, M, s, s', a, w, hl, hA, hE, hB, e, hQ => by
    have ho : ops[k]? = some o := by have := hl 0; simpa using this.symm
    have hl' : ∀ j, l[j]? = ops[k + 1 + j]? := by
      intro j
      have := hl (j + 1)
      rw [show k + (j + 1) = k + 1 + j by omega] at this
      simpa using this
    rw [List.length_cons, List.range'_succ]
    simp only [wpOps, ho]
    unfold absOps at e
    split at e
    · cases e
    · rename_i hw
      rw [wanted_ok hA.tr hw]
      simp only [Bool.false_eq_true, if_false]
      obtain ⟨h1, h2, h3⟩ := TR_put hA.tr hA.size o.dst (v := .tup []) (u := undef) (.tup rfl (fun i hi => by simp at hi))
      exact absOps_sound l (k + 1) M { s with tmps := setD N s.tmps o.dst (.tup []) } s' _ w hl' ⟨hA.inv, h1, by rw [h3]; exact hA.defers, h2⟩ hE hB e hQ
    · rename_i hw
      rw [wanted_ok hA.tr hw]
      simp only [if_true]
      split at e
      · cases e
      · rename_i v H' ws hop
        refine .inl (oper_wp hcf hA hop ?_)
        intro M' u w' k1 k2 k3 k4
        obtain ⟨h1, h2, h3⟩ := TR_put (hA.tr.mono k1) hA.size o.dst k3
        exact absOps_sound l (k + 1) M' _ s' _ w' hl' ⟨k2, h1, by rw [h3]; exact hA.defers, h2⟩ (hE.trans k1) (hB.trans k4) e hQ
end

theorem clearM_R {M : Mem} {K : List Nat} {t : Tmps} {a : Array Value} (h : TR M t a) : TR M (clearM K t) a := by
  intro i
  have : tget (clearM K t) i = tget t i ∨ tget (clearM K t) i = .junk := by
    unfold clearM
    induction K with
    | nil => exact .inr rfl
    | cons j K ih =>
      simp only [List.map_cons, tget_cons]
      split
      · rename_i e; left; rw [e]
      · exact ih
  rcases this with e | e
  · rw [e]; exact h i
  · rw [e]; exact .junk _

theorem wp_loop_n {P : Program} {Q : Exit → Act → World → Prop} {c : Code} (J : Nat → Act → World → Prop)
    (round : ∀ n a w, J n a w → c.wp P (Exit.then (fun a' w' => ∃ m, m < n ∧ J m a' w') Q) a w) {n : Nat} {a : Act} {w : World} (h₀ : J n a w) : (Code.loop c).wp P Q a w := by
  intro b k cs
  have key : ∀ n a w, J n a w → ∃ e a' w', Q e a' w' ∧ Arrives P (lone (b.at a (.code c :: .inLoop c :: k)) cs w) b k cs e a' w' := by
    intro n
    induction n using Nat.strongRecOn with
    | _ n ih =>
      intro a w hI
      obtain ⟨e, a₁, w₁, hq, harr⟩ := round n a w hI b (.inLoop c :: k) cs
      cases e with
      | normal =>
        obtain ⟨m, hlt, hI₁⟩ := hq
        obtain ⟨e₂, a₂, w₂, hq₂, harr₂⟩ := ih m hlt a₁ w₁ hI₁
        exact ⟨e₂, a₂, w₂, hq₂, .of_steps (Steps.trans harr (.one step_inLoop)) harr₂⟩
      | exit id => exact ⟨_, a₁, w₁, hq, .pass (x := .inLoop c) rfl (fun _ _ => .inl (by simp)) harr⟩
      | goto l => exact ⟨_, a₁, w₁, hq, .pass (x := .inLoop c) rfl (fun _ _ => .inl (by simp)) harr⟩
      | ret => exact ⟨_, a₁, w₁, hq, .pass (x := .inLoop c) rfl (fun _ _ => .inl (by simp)) harr⟩
      | panic ch => exact ⟨_, a₁, w₁, hq, .pass (x := .inLoop c) rfl (fun _ _ => .inl (by simp)) harr⟩
      | outgrown => exact ⟨_, a₁, w₁, hq, .pass (x := .inLoop c) rfl (fun _ _ => .inl (by simp)) harr⟩
  obtain ⟨e, a', w', hq, harr⟩ := key _ a w h₀
  exact ⟨e, a', w', hq, .of_steps (.one step_loop) harr⟩

def InScope (P : Program) (c cur : Code) (Q : Exit → Act → World → Prop) (a : Act) (w : World) : Prop :=
  ∀ (b : Frame) (k : List Item) (cs : List Frame), ∃ e a' w', Q e a' w' ∧ Arrives P (lone (b.at a (.code cur :: .inScope c :: k)) cs w) b k cs e a' w'

def Exit.boxed (P : Program) (c : Code) (Q : Exit → Act → World → Prop) : Exit → Act → World → Prop
  | .goto l, a, w => match findLabel c l with
    | some rest => InScope P c rest Q a w
    | none => Q (.goto l) a w
  | e, a, w => Q e a w

theorem inScope_of {P : Program} {c cur : Code} {Q : Exit → Act → World → Prop} {a : Act} {w : World} (h : cur.wp P (Exit.boxed P c Q) a w) : InScope P c cur Q a w := by
  intro b k cs
  obtain ⟨e, a₁, w₁, hq, harr⟩ := h b (.inScope c :: k) cs
  cases e with
  | normal => exact ⟨.normal, a₁, w₁, hq, Steps.trans harr (.one step_inScope)⟩
  | exit id => exact ⟨.exit id, a₁, w₁, hq, fun k' hk => harr k' (by simp [exitTo, hk])⟩
  | goto l =>
    simp only [Exit.boxed] at hq
    cases hf : findLabel c l with
    | none =>
      rw [hf] at hq
      exact ⟨.goto l, a₁, w₁, hq, fun k' hk => harr k' (by simp [gotoIn, hf, hk])⟩
    | some rest =>
      rw [hf] at hq
      obtain ⟨e₂, a₂, w₂, hq₂, harr₂⟩ := hq b k cs
      exact ⟨e₂, a₂, w₂, hq₂, .of_steps (harr _ (by simp [gotoIn, hf])) harr₂⟩
  | ret => exact ⟨_, a₁, w₁, hq, harr⟩
  | panic ch => exact ⟨_, a₁, w₁, hq, harr⟩
  | outgrown => exact ⟨_, a₁, w₁, hq, harr⟩

theorem wp_scope_in {P : Program} {c : Code} {Q : Exit → Act → World → Prop} {a : Act} {w : World} (h : InScope P c c Q a w) : (Code.scope c).wp P Q a w := by
  intro b k cs
  obtain ⟨e, a', w', hq, harr⟩ := h b k cs
  exact ⟨e, a', w', hq, .of_steps (.one step_scope) harr⟩


/-! What is carried round a loop, in order. -/

section
variable {B n0 : Nat} {L : List (Option Nat)} {M M1 : Mem} {H H1 : Heap} {w w1 : World}

theorem CellsOK.cons {M1 M2 : Mem} {c c' : Leaf} {cs cs' : List Leaf} (h : CellOK M1 M2 c c') (k : CellsOK M1 M2 cs cs') : CellsOK M1 M2 (c :: cs) (c' :: cs') := by
  refine ⟨by simp [k.1], fun j hj => ?_⟩
  cases j with
  | zero => exact h
  | succ j => exact k.2 j (by simpa using hj)

theorem RowsOK.cons {M1 M2 : Mem} {c c' : List Leaf} {cs cs' : List (List Leaf)} (h : CellsOK M1 M2 c c') (k : RowsOK M1 M2 cs cs') : RowsOK M1 M2 (c :: cs) (c' :: cs') := by
  refine ⟨by simp [k.1], fun j hj => ?_⟩
  cases j with
  | zero => exact h
  | succ j => exact k.2 j (by simpa using hj)

theorem nils_virt {p : Nat} (hp : p < n0 + L.length) (e : Nat) : CellOK M1 (cutMem n0 L M1 H1 w1) .nils (.sl p e 0 0 0) := by
  intro u hu
  rw [hu.nils_inv]
  exact .slnil p e hp

theorem newCells_ok (h1 : Inv B M1 H1 w1) : ∀ (ks : List Nat) (cs : List Leaf) (p : Nat) (r : List Leaf × Heap), newCells H1 n0 L p ks cs = some r → p + (cellIds n0 ks cs).length ≤ L.length →
    CellsOK M1 (cutMem n0 L M1 H1 w1) cs r.1 ∧ AlL M1 (cutMem n0 L M1 H1 w1) H1 (cellIds n0 ks cs) r.2
  | [], cs, p, r, e, hp => by
    unfold newCells at e
    split at e
    · cases e
    · rename_i cs' h
      cases e
      exact ⟨cells_sound h1 h, by simp [cellIds, AlL]⟩
  | k :: ks, [], p, r, e, hp => by
    unfold newCells at e
    cases e
    exact ⟨⟨rfl, fun j hj => by simp at hj⟩, by simp [cellIds, AlL]⟩
  | 0 :: ks, c :: cs, p, r, e, hp => by
    unfold newCells at e
    simp only at e
    split at e
    · cases e
    · rename_i c' hc
      split at e
      · cases e
      · rename_i q hq
        cases e
        obtain ⟨g1, g2⟩ := newCells_ok h1 ks cs p q hq (by simpa [cellIds] using hp)
        exact ⟨g1.cons (fzT_sound h1 hc), by simpa [cellIds] using g2⟩
  | (e' + 1) :: ks, c :: cs, p, r, e, hp => by
    unfold newCells at e
    simp only at e
    simp only [cellIds, List.length_cons] at hp
    split at e
    · split at e
      · cases e
      · rename_i q hq
        cases e
        obtain ⟨g1, g2⟩ := newCells_ok h1 ks cs (p + 1) q hq (by omega)
        refine ⟨g1.cons (nils_virt (by omega) _), ?_⟩
        show AlL _ _ _ (ownId n0 .nils :: cellIds n0 ks cs) (_ :: q.2)
        exact ⟨.inl ⟨rfl, .inr ⟨e', rfl⟩⟩, g2⟩
    · split at e
      · cases e
      · rename_i c' hc
        split at e
        · cases e
        · rename_i o ho
          split at e
          · cases e
          · rename_i q hq
            cases e
            obtain ⟨g1, g2⟩ := newCells_ok h1 ks cs (p + 1) q hq (by omega)
            exact ⟨g1.cons (fzT_sound h1 hc), objOf_al h1 ho, g2⟩

theorem newRows_ok (h1 : Inv B M1 H1 w1) {ks : List Nat} : ∀ (es : List (List Leaf)) (p : Nat) (r : List (List Leaf) × Heap), newRows H1 n0 L ks p es = some r → p + (es.flatMap (cellIds n0 ks)).length ≤ L.length →
    RowsOK M1 (cutMem n0 L M1 H1 w1) es r.1 ∧ AlL M1 (cutMem n0 L M1 H1 w1) H1 (es.flatMap (cellIds n0 ks)) r.2
  | [], p, r, e, hp => by
    cases e
    exact ⟨⟨rfl, fun j hj => by simp at hj⟩, trivial⟩
  | cs :: es, p, r, e, hp => by
    unfold newRows at e
    split at e
    · cases e
    · rename_i r1 h2
      split at e
      · cases e
      · rename_i q hq
        cases e
        simp only [List.flatMap_cons, List.length_append] at hp
        obtain ⟨g1, g2⟩ := newCells_ok h1 ks cs p r1 h2 (by omega)
        have hl := g2.length
        obtain ⟨g3, g4⟩ := newRows_ok h1 es _ q hq (by omega)
        exact ⟨g3.cons g1, by rw [List.flatMap_cons]; exact g2.append g4⟩

theorem newRoot_ok (h1 : Inv B M1 H1 w1) {ks : List Nat} {p : Nat} {x : Option Nat} {o : Heap} (e : newRoot H1 n0 L p ks x = some o) (hp : p + (x :: insideIds H1 n0 ks x).length ≤ L.length) :
    AlL M1 (cutMem n0 L M1 H1 w1) H1 (x :: insideIds H1 n0 ks x) o := by
  unfold newRoot at e
  split at e
  · cases e
    have : insideIds H1 n0 ks none = [] := by unfold insideIds; split <;> rfl
    rw [this]
    exact ⟨.inl ⟨rfl, .inl rfl⟩, trivial⟩
  · rename_i id
    split at e
    · split at e
      · cases e
      · rename_i o' ho
        cases e
        exact ⟨objOf_al h1 ho, trivial⟩
    · rename_i k ks
      split at e
      · rename_i z es hes
        split at e
        · cases e
        · rename_i r hr
          cases e
          have hi : insideIds H1 n0 (k :: ks) (some id) = es.flatMap (cellIds n0 (k :: ks)) := by simp only [insideIds, hes]
          rw [hi] at hp ⊢
          simp only [List.length_cons] at hp
          obtain ⟨g1, g2⟩ := newRows_ok h1 es (p + 1) r hr (by omega)
          exact ⟨.inr ⟨id, _, _, rfl, hes, rfl, rfl, g1⟩, g2⟩
      · cases e

theorem newCells2_ok (h1 : Inv B M1 H1 w1) : ∀ (ks : List (Nat × List Nat)) (cs : List Leaf) (p : Nat) (r : List Leaf × Heap), newCells2 H1 n0 L p ks cs = some r → p + (cellIds2 H1 n0 ks cs).length ≤ L.length →
    CellsOK M1 (cutMem n0 L M1 H1 w1) cs r.1 ∧ AlL M1 (cutMem n0 L M1 H1 w1) H1 (cellIds2 H1 n0 ks cs) r.2
  | [], cs, p, r, e, hp => by
    unfold newCells2 at e
    split at e
    · cases e
    · rename_i cs' h
      cases e
      exact ⟨cells_sound h1 h, by simp [cellIds2, AlL]⟩
  | k :: ks, [], p, r, e, hp => by
    unfold newCells2 at e
    cases e
    exact ⟨⟨rfl, fun j hj => by simp at hj⟩, by simp [cellIds2, AlL]⟩
  | (0, k2) :: ks, c :: cs, p, r, e, hp => by
    unfold newCells2 at e
    simp only at e
    split at e
    · cases e
    · rename_i c' hc
      split at e
      · cases e
      · rename_i q hq
        cases e
        obtain ⟨g1, g2⟩ := newCells2_ok h1 ks cs p q hq (by simpa [cellIds2] using hp)
        exact ⟨g1.cons (fzT_sound h1 hc), by simpa [cellIds2] using g2⟩
  | (e' + 1, k2) :: ks, c :: cs, p, r, e, hp => by
    unfold newCells2 at e
    simp only at e
    simp only [cellIds2, List.length_append] at hp
    split at e
    · split at e
      · cases e
      · rename_i q hq
        cases e
        have hn : ownId n0 .nils :: insideIds H1 n0 k2 (ownId n0 .nils) = [none] := by
          simp only [ownId, refId]
          congr 1
          unfold insideIds; split <;> rfl
        rw [hn] at hp
        simp only [List.length_cons, List.length_nil] at hp
        obtain ⟨g1, g2⟩ := newCells2_ok h1 ks cs (p + 1) q hq (by omega)
        refine ⟨g1.cons (nils_virt (by omega) _), ?_⟩
        show AlL _ _ _ ((ownId n0 .nils :: insideIds H1 n0 k2 (ownId n0 .nils)) ++ cellIds2 H1 n0 ks cs) (_ :: q.2)
        rw [hn]
        exact ⟨.inl ⟨rfl, .inr ⟨e', rfl⟩⟩, g2⟩
    · split at e
      · cases e
      · rename_i c' hc
        split at e
        · cases e
        · rename_i o ho
          split at e
          · cases e
          · rename_i q hq
            cases e
            have g0 := newRoot_ok h1 ho (by omega)
            have hl := g0.length
            obtain ⟨g1, g2⟩ := newCells2_ok h1 ks cs (p + o.length) q hq (by omega)
            exact ⟨g1.cons (fzT_sound h1 hc), g0.append g2⟩

theorem newRows2_ok (h1 : Inv B M1 H1 w1) {kss : List (Nat × List Nat)} : ∀ (es : List (List Leaf)) (p : Nat) (r : List (List Leaf) × Heap), newRows2 H1 n0 L kss p es = some r → p + (es.flatMap (cellIds2 H1 n0 kss)).length ≤ L.length →
    RowsOK M1 (cutMem n0 L M1 H1 w1) es r.1 ∧ AlL M1 (cutMem n0 L M1 H1 w1) H1 (es.flatMap (cellIds2 H1 n0 kss)) r.2
  | [], p, r, e, hp => by
    cases e
    exact ⟨⟨rfl, fun j hj => by simp at hj⟩, trivial⟩
  | cs :: es, p, r, e, hp => by
    unfold newRows2 at e
    split at e
    · cases e
    · rename_i r1 h2
      split at e
      · cases e
      · rename_i q hq
        cases e
        simp only [List.flatMap_cons, List.length_append] at hp
        obtain ⟨g1, g2⟩ := newCells2_ok h1 kss cs p r1 h2 (by omega)
        have hl := g2.length
        obtain ⟨g3, g4⟩ := newRows2_ok h1 es _ q hq (by omega)
        exact ⟨g3.cons g1, by rw [List.flatMap_cons]; exact g2.append g4⟩

theorem newRoot2_ok (h1 : Inv B M1 H1 w1) {kss : List (Nat × List Nat)} {p : Nat} {x : Option Nat} {o : Heap} (e : newRoot2 H1 n0 L p kss x = some o) (hp : p + (x :: insideIds2 H1 n0 kss x).length ≤ L.length) :
    AlL M1 (cutMem n0 L M1 H1 w1) H1 (x :: insideIds2 H1 n0 kss x) o := by
  unfold newRoot2 at e
  split at e
  · cases e
    exact ⟨.inl ⟨rfl, .inl rfl⟩, trivial⟩
  · rename_i id
    split at e
    · rename_i z es hes
      split at e
      · cases e
      · rename_i r hr
        cases e
        have hi : insideIds2 H1 n0 kss (some id) = es.flatMap (cellIds2 H1 n0 kss) := by simp only [insideIds2, hes]
        rw [hi] at hp ⊢
        simp only [List.length_cons] at hp
        obtain ⟨g1, g2⟩ := newRows2_ok h1 es (p + 1) r hr (by omega)
        exact ⟨.inr ⟨id, _, _, rfl, hes, rfl, rfl, g1⟩, g2⟩
    · cases e

theorem kdNew_ok (h1 : Inv B M1 H1 w1) {p : Nat} {v : V} {kd : Kd} {r : V × Heap} (e : kdNew H1 n0 L p v kd = some r) (hp : p + (kdIds H1 n0 v kd).length ≤ L.length) :
    (∀ u, VV M1 v u → VV (cutMem n0 L M1 H1 w1) r.1 u) ∧ AlL M1 (cutMem n0 L M1 H1 w1) H1 (kdIds H1 n0 v kd) r.2 := by
  cases kd with
  | p =>
    simp only [kdNew] at e
    split at e
    · cases e
    · rename_i v' hv
      cases e
      exact ⟨fun u hu => fzV_sound h1 hv hu, trivial⟩
  | m =>
    simp only [kdNew] at e
    split at e
    · rename_i v' o hv ho
      cases e
      refine ⟨fun u hu => fzV_sound h1 hv hu, ?_⟩
      have := newRoot_ok (ks := []) h1 ho (by simpa [kdIds, insideIds] using hp)
      simpa [kdIds, insideIds] using this
    · cases e
  | s z ks =>
    simp only [kdNew] at e
    split at e
    · cases e
      have hi : kdIds H1 n0 (.one .nils) (.s z ks) = [none] := by
        simp only [kdIds, rootOf, ownId, refId]
        congr 1
        unfold insideIds; split <;> rfl
      rw [hi] at hp ⊢
      refine ⟨fun u hu => ?_, .inl ⟨rfl, .inr ⟨z, rfl⟩⟩, trivial⟩
      exact .one (nils_virt (by simp at hp; omega) z u hu.one_inv)
    · split at e
      · rename_i v' o hv ho
        cases e
        exact ⟨fun u hu => fzV_sound h1 hv hu, newRoot_ok h1 ho hp⟩
      · cases e
  | b ks =>
    simp only [kdNew] at e
    split at e
    · rename_i v' o hv ho
      cases e
      exact ⟨fun u hu => fzV_sound h1 hv hu, newRoot_ok h1 ho hp⟩
    · cases e
  | b2 kss =>
    simp only [kdNew] at e
    split at e
    · rename_i v' o hv ho
      cases e
      exact ⟨fun u hu => fzV_sound h1 hv hu, newRoot2_ok h1 ho hp⟩
    · cases e
  | r id =>
    simp only [kdNew] at e
    split at e
    · cases e
    · rename_i v' hv
      cases e
      exact ⟨fun u hu => fzV_sound h1 hv hu, trivial⟩
  | x id => cases e; exact ⟨fun u hu => .junk _, trivial⟩

theorem kdAll_ok (h1 : Inv B M1 H1 w1) {t : Tmps} {a : Array Value} (hT : TR M1 t a) : ∀ (K : List (Nat × Kd)) (p : Nat) (q : Tmps × Heap), kdAll H1 n0 L t p K = some q → p + (kdL H1 n0 t K).length ≤ L.length →
    TR (cutMem n0 L M1 H1 w1) q.1 a ∧ AlL M1 (cutMem n0 L M1 H1 w1) H1 (kdL H1 n0 t K) q.2
  | [], p, q, e, hp => by cases e; exact ⟨fun i => .junk _, trivial⟩
  | k :: K, p, q, e, hp => by
    unfold kdAll at e
    split at e
    · cases e
    · rename_i r hr
      split at e
      · cases e
      · rename_i q' hq
        cases e
        simp only [kdL, List.length_append] at hp
        obtain ⟨g1, g2⟩ := kdNew_ok h1 hr (by omega)
        have hl := g2.length
        obtain ⟨g3, g4⟩ := kdAll_ok h1 hT K _ q' hq (by omega)
        refine ⟨fun i => ?_, g2.append g4⟩
        rw [tget_cons]
        split
        · rename_i hi; subst hi; exact g1 _ (hT _)
        · exact g3 i

def FrC (n0 : Nat) (H0 : Heap) (s : St) : Prop := n0 ≤ s.heap.length ∧ ∀ id, id < n0 → id ∉ s.ws → s.heap[id]? = H0[id]?

theorem FrC.step {n0 : Nat} {H0 : Heap} {s s' : St} (h : FrC n0 H0 s) (k : FrS n0 s s') : FrC n0 H0 s' :=
  ⟨k.1 h.1, fun id hid hn => (k.2.2 id hid hn).trans (h.2 id hid fun hx => hn (k.2.1 id hx hid))⟩

theorem tidy_ok (h0 : Inv B M H w) (hn : H.length = n0) {K : List (Nat × Kd)} {s : St} (h1 : Inv B M1 s.heap w1) (hfr : FrC n0 H s) {a : Array Value} (hT : TR M1 s.tmps a) :
    ∃ M2, ExtN n0 M1 M2 ∧ Inv B M2 (tidy n0 K s).heap w1 ∧ TR M2 (tidy n0 K s).tmps a := by
  unfold tidy
  split
  · rename_i s' e
    obtain ⟨hok, q, h', hq, hh, rfl⟩ := tidyO_some e
    obtain ⟨g1, g2⟩ := kdAll_ok h1 hT K 0 q hq (by omega)
    obtain ⟨g3, g4⟩ := fzH_ok h1 hfr.1 hh
    have := cut_inv h0 hn h1 (ws := wsOf n0 s.ws) ⟨hfr.1, fun id hid hnw => hfr.2 id hid fun hx => hnw ((mem_ws _ _ _).2 ⟨hx, hid⟩)⟩ hok g3 g4 g2
    exact ⟨_, this.1, this.2, g1⟩
  · exact ⟨M1, .refl _ _, h1, clearM_R hT⟩
end

def CPostN (B n0 : Nat) (M : Mem) (w : World) (N : Nat) (x : AX) (s : St) (e : Exit) (a' : Act) (w' : World) : Prop :=
  x.is e ∧ a'.defers = [] ∧ a'.tmps.size = N ∧ ∃ M', ExtN n0 M M' ∧ Inv B M' s.heap w' ∧ TR M' s.tmps a'.tmps ∧ Below B w w'

theorem CPost.toN {B n0 N : Nat} {M : Mem} {w : World} {x : AX} {s : St} {e : Exit} {a' : Act} {w' : World} (h : CPost B M w N x s e a' w') : CPostN B n0 M w N x s e a' w' := by
  obtain ⟨h1, h2, h3, M', h4, h5, h6, h7⟩ := h
  exact ⟨h1, h2, h3, M', h4.below, h5, h6, h7⟩

theorem CPostN.trans {B n0 N : Nat} {M M1 : Mem} {w w1 : World} {x : AX} {s : St} {e : Exit} {a' : Act} {w' : World} (hE : ExtN n0 M M1) (hB : Below B w w1) (h : CPostN B n0 M1 w1 N x s e a' w') : CPostN B n0 M w N x s e a' w' := by
  obtain ⟨h1, h2, h3, M', h4, h5, h6, h7⟩ := h
  exact ⟨h1, h2, h3, M', hE.trans h4, h5, h6, hB.trans h7⟩

def DrawOK (P : Program) (cf : CF) : Prop :=
  ∀ (B : Nat) (M : Mem) (N : Nat) (ops : Array Oper) (id : Nat) (s s' : St) (a : Act) (w : World), At B M N s a w → absDraw P cf N ops s = some s' → (Code.region id ops true).wp P (CPost B M w N .normal s') a w

def ScOK (P : Program) (N n0 B : Nat) (H0 : Heap) (sc : Code → Code → St → Option (AX × St)) : Prop :=
  ∀ (M : Mem) (c cur : Code) (x : AX) (s s' : St) (a : Act) (w : World), At B M N s a w → FrC n0 H0 s → sc c cur s = some (x, s') → InScope P c cur (CPostN B n0 M w N x s') a w

def ScFr (n0 : Nat) (sc : Code → Code → St → Option (AX × St)) : Prop := ∀ c cur s x s', n0 ≤ s.heap.length → sc c cur s = some (x, s') → FrS n0 s s'

theorem iter_sound {P : Program} {N B n0 : Nat} {H0 : Heap} {f : St → Option (AX × St)} {c : Code}
    (hf : ∀ (M : Mem) (x : AX) (s s' : St) (a : Act) (w : World), At B M N s a w → FrC n0 H0 s → f s = some (x, s') → c.wp P (CPostN B n0 M w N x s') a w)
    (hfr : ∀ s x s', n0 ≤ s.heap.length → f s = some (x, s') → FrS n0 s s')
    {M : Mem} {n : Nat} {x : AX} {s s' : St} {a : Act} {w : World} (hA : At B M N s a w) (hF : FrC n0 H0 s) (e : iter f n s = some (x, s')) : (Code.loop c).wp P (CPostN B n0 M w N x s') a w := by
  refine wp_loop_n (fun n a1 w1 => ∃ M1 s1, At B M1 N s1 a1 w1 ∧ FrC n0 H0 s1 ∧ ExtN n0 M M1 ∧ Below B w w1 ∧ iter f n s1 = some (x, s')) ?_ (n := n) ⟨M, s, hA, hF, .refl _ M, .refl B w, e⟩
  rintro n a1 w1 ⟨M1, s1, hA1, hF1, hE1, hB1, e1⟩
  cases n with
  | zero => cases e1
  | succ n =>
    unfold iter at e1
    cases hfs : f s1 with
    | none => rw [hfs] at e1; cases e1
    | some r =>
      obtain ⟨y, s2⟩ := r
      rw [hfs] at e1
      refine wp_mono (hf M1 y s1 s2 a1 w1 hA1 hF1 hfs) ?_
      intro e2 a2 w2 h2
      obtain ⟨h3, h4, h5, M2, h6, h7, h8, h9⟩ := h2
      cases y with
      | normal =>
        cases e2 <;> simp only [AX.is] at h3
        exact ⟨n, Nat.lt_succ_self n, M2, s2, ⟨h7, h8, h4, h5⟩, hF1.step (hfr _ _ _ hF1.1 hfs), hE1.trans h6, hB1.trans h9, e1⟩
      | exit i => cases e1; cases e2 <;> simp only [AX.is] at h3; subst h3; exact ⟨rfl, h4, h5, M2, hE1.trans h6, h7, h8, hB1.trans h9⟩
      | goto i => cases e1; cases e2 <;> simp only [AX.is] at h3; subst h3; exact ⟨rfl, h4, h5, M2, hE1.trans h6, h7, h8, hB1.trans h9⟩
      | ret => cases e1; cases e2 <;> simp only [AX.is] at h3; exact ⟨trivial, h4, h5, M2, hE1.trans h6, h7, h8, hB1.trans h9⟩

section
variable {P : Program} {cf : CF} (hcf : CFOK P cf) (hfr : CFFr cf) (hd : DrawOK P cf) {N n0 B : Nat} {M0 : Mem} {H0 : Heap} {w0 : World} (h0 : Inv B M0 H0 w0) (hn0 : H0.length = n0) {n : Nat} {K : List (Nat × Kd)}
include hcf hfr hd h0 hn0

omit hcf hfr hd h0 hn0 in
theorem killT_R {M : Mem} {id : Nat} {T : Tmps} {a : Array Value} (h : TR M T a) : ∀ (K : List (Nat × Kd)), TR M (killT id K T) a
  | [] => h
  | (i, .x j) :: K => by
    have ih := killT_R (id := id) h K
    show TR M (if j == id then (i - 1000, V.junk) :: killT id K T else killT id K T) a
    generalize i - 1000 = m
    split
    · intro n
      show VV M (match Nat.beq m n with | true => V.junk | false => tget (killT id K T) n) _
      split
      · exact .junk _
      · exact ih n
    · exact ih
  | (i, .p) :: K => killT_R (id := id) h K
  | (i, .s _ _) :: K => killT_R (id := id) h K
  | (i, .b _) :: K => killT_R (id := id) h K
  | (i, .b2 _) :: K => killT_R (id := id) h K
  | (i, .m) :: K => killT_R (id := id) h K
  | (i, .r _) :: K => killT_R (id := id) h K
omit hcf hfr hd in
theorem atR_ok {M : Mem} {w : World} {id : Nat} {s : St} {a' : Act} {w' : World} {e : Exit} (hF : FrC n0 H0 s) (h : CPost B M w N .normal s e a' w') : CPostN B n0 M w N .normal (atR n0 K id s) e a' w' := by
  unfold atR
  split
  · obtain ⟨h1, h2, h3, M', h4, h5, h6, h7⟩ := h
    obtain ⟨M2, k1, k2, k3⟩ := tidy_ok h0 hn0 (K := K) (s := ⟨killT id K s.tmps, s.heap, s.ws⟩) h5 hF (killT_R h6 K)
    exact ⟨h1, h2, h3, M2, h4.below.trans k1, k2, k3, h7⟩
  · exact h.toN

theorem absCode_sound {sc : Code → Code → St → Option (AX × St)} (hsc : ScOK P N n0 B H0 sc) (hscf : ScFr n0 sc) (c : Code) :
    ∀ (M : Mem) (x : AX) (s s' : St) (a : Act) (w : World), At B M N s a w → FrC n0 H0 s → absCode P cf sc n N n0 K c s = some (x, s') → c.wp P (CPostN B n0 M w N x s') a w := by
  have fr : ∀ (c : Code) {s : St} {x : AX} {s' : St}, FrC n0 H0 s → absCode P cf sc n N n0 K c s = some (x, s') → FrC n0 H0 s' := fun c {s x s'} h e => h.step (absCode_fr hfr hscf c s x s' h.1 e)
  induction c with
  | skip => intro M x s s' a w hA hF e; cases e; exact wp_skip ⟨trivial, hA.defers, hA.size, M, .refl _ M, hA.inv, hA.tr, .refl B w⟩
  | region id ops draw =>
    intro M x s s' a w hA hF e
    cases draw with
    | false =>
      simp only [absCode] at e
      obtain ⟨s1, e1, e2⟩ := Option.map_eq_some_iff.1 e
      cases e2
      refine wp_region ?_
      rw [List.range_eq_range']
      have := absOps_sound hcf (ops := ops) (Q := CPostN B n0 M w N .normal (atR n0 K id s1)) ops.toList 0 M s s1 a w (fun j => by simp) hA (.refl M) (.refl B w) e1 (fun a' w' h => atR_ok h0 hn0 (hF.step (absOps_fr hfr _ s s1 hF.1 e1)) h)
      simpa using this
    | true =>
      simp only [absCode] at e
      obtain ⟨s1, e1, e2⟩ := Option.map_eq_some_iff.1 e
      cases e2
      exact wp_mono (hd B M N ops id s s1 a w hA e1) fun _ _ _ h => atR_ok h0 hn0 (hF.step (absDraw_fr hfr hF.1 e1)) h
  | seq x1 x2 ih1 ih2 =>
    intro M x s s' a w hA hF e
    refine wp_seq ?_
    simp only [absCode] at e
    cases h1 : absCode P cf sc n N n0 K x1 s with
    | none => rw [h1] at e; cases e
    | some r =>
      obtain ⟨y, s1⟩ := r
      rw [h1] at e
      refine wp_mono (ih1 M y s s1 a w hA hF h1) ?_
      intro e2 a2 w2 h2
      cases y with
      | normal =>
        obtain ⟨h3, h4, h5, M2, h6, h7, h8, h9⟩ := h2
        cases e2 <;> simp only [AX.is] at h3
        exact wp_mono (ih2 M2 x s1 s' a2 w2 ⟨h7, h8, h4, h5⟩ (fr x1 hF h1) e) fun _ _ _ h => h.trans h6 h9
      | exit i => cases e; have h3 := h2.1; cases e2 <;> simp only [AX.is] at h3; exact h2
      | goto i => cases e; have h3 := h2.1; cases e2 <;> simp only [AX.is] at h3; exact h2
      | ret => cases e; have h3 := h2.1; cases e2 <;> simp only [AX.is] at h3; exact h2
  | cond c x1 x2 ih1 ih2 =>
    intro M x s s' a w hA hF e
    simp only [absCode] at e
    have hc := ev_V hA.tr c
    split at e
    · rename_i hb
      rw [hb] at hc
      exact wp_cond_true hc.one_inv.bool_inv (ih1 M x s s' a w hA hF e)
    · rename_i hb
      rw [hb] at hc
      exact wp_cond_false hc.one_inv.bool_inv (ih2 M x s s' a w hA hF e)
    · cases e
  | block id c ih =>
    intro M x s s' a w hA hF e
    refine wp_block ?_
    simp only [absCode] at e
    cases h1 : absCode P cf sc n N n0 K c s with
    | none => rw [h1] at e; cases e
    | some r =>
      obtain ⟨y, s1⟩ := r
      rw [h1] at e
      refine wp_mono (ih M y s s1 a w hA hF h1) ?_
      intro e2 a2 w2 h2
      have h3 := h2.1
      cases y with
      | normal => cases e; cases e2 <;> simp only [AX.is] at h3; exact h2
      | exit i =>
        cases e2 <;> simp only [AX.is] at h3
        subst h3
        simp only [Exit.inBlock]
        simp only at e
        split at e
        · rename_i hi; cases e; rw [if_pos hi]; exact ⟨trivial, h2.2⟩
        · rename_i hi; cases e; rw [if_neg hi]; exact h2
      | goto i => cases e; cases e2 <;> simp only [AX.is] at h3; exact h2
      | ret => cases e; cases e2 <;> simp only [AX.is] at h3; exact h2
  | loop c ih =>
    intro M x s s' a w hA hF e
    simp only [absCode] at e
    obtain ⟨M2, t1, t2, t3⟩ := tidy_ok (K := K) h0 hn0 hA.inv hF hA.tr
    have hA2 : At B M2 N (tidy n0 K s) a w := ⟨t2, t3, hA.defers, hA.size⟩
    have hF2 := hF.step (tidy_fr (K := K) hF.1)
    refine wp_mono (iter_sound (H0 := H0) (f := fun s => tidyR n0 K (absCode P cf sc n N n0 K c s)) ?_ ?_ hA2 hF2 e) fun _ _ _ h => h.trans t1 (.refl B w)
    · intro M1 y s1 s2 a1 w1 hA1 hF1 e1
      obtain ⟨s3, h3, rfl⟩ := tidyR_some e1
      refine wp_mono (ih M1 y s1 s3 a1 w1 hA1 hF1 h3) ?_
      intro e2 a2 w2 h2
      obtain ⟨k1, k2, k3, M3, k4, k5, k6, k7⟩ := h2
      obtain ⟨M4, q1, q2, q3⟩ := tidy_ok (K := K) h0 hn0 k5 (fr c hF1 h3) k6
      exact ⟨k1, k2, k3, M4, k4.trans q1, q2, q3, k7⟩
    · intro s1 y s2 hl e1
      obtain ⟨s3, h3, rfl⟩ := tidyR_some e1
      have h5 := absCode_fr hfr hscf c s1 y s3 hl h3
      exact h5.trans (tidy_fr (h5.1 hl))
  | rangeFunc f ps as body => intro M x s s' a w hA hF e; simp [absCode] at e
  | exit id => intro M x s s' a w hA hF e; cases e; exact wp_exit ⟨rfl, hA.defers, hA.size, M, .refl _ M, hA.inv, hA.tr, .refl B w⟩
  | scope c ih =>
    intro M x s s' a w hA hF e
    refine wp_scope_in (inScope_of ?_)
    simp only [absCode] at e
    cases h1 : absCode P cf sc n N n0 K c s with
    | none => rw [h1] at e; cases e
    | some r =>
      obtain ⟨y, s1⟩ := r
      rw [h1] at e
      refine wp_mono (ih M y s s1 a w hA hF h1) ?_
      intro e2 a2 w2 h2
      have h3 := h2.1
      cases y with
      | normal => cases e; cases e2 <;> simp only [AX.is] at h3; exact h2
      | exit i => cases e; cases e2 <;> simp only [AX.is] at h3; exact h2
      | goto i =>
        cases e2 <;> simp only [AX.is] at h3
        subst h3
        simp only [Exit.boxed]
        simp only at e
        cases hf : findLabel c i with
        | none => rw [hf] at e; cases e; exact h2
        | some rest =>
          rw [hf] at e
          obtain ⟨_, h4, h5, M2, h6, h7, h8, h9⟩ := h2
          intro b k cs
          obtain ⟨e3, a3, w3, h10, h11⟩ := hsc M2 c rest x s1 s' a2 w2 ⟨h7, h8, h4, h5⟩ (fr c hF h1) e b k cs
          exact ⟨e3, a3, w3, h10.trans h6 h9, h11⟩
      | ret => cases e; cases e2 <;> simp only [AX.is] at h3; exact h2
  | label l => intro M x s s' a w hA hF e; cases e; exact wp_label ⟨trivial, hA.defers, hA.size, M, .refl _ M, hA.inv, hA.tr, .refl B w⟩
  | goto l => intro M x s s' a w hA hF e; cases e; exact wp_goto ⟨rfl, hA.defers, hA.size, M, .refl _ M, hA.inv, hA.tr, .refl B w⟩
  | ret => intro M x s s' a w hA hF e; cases e; exact wp_ret ⟨trivial, hA.defers, hA.size, M, .refl _ M, hA.inv, hA.tr, .refl B w⟩
  | refuse why => intro M x s s' a w hA hF e; simp [absCode] at e

theorem absScope_sound : ∀ m, ScOK P N n0 B H0 (absScope P cf n N n0 K m)
  | 0 => fun M c cur x s s' a w hA hF e => by cases e
  | m + 1 => fun M c cur x s s' a w hA hF e => by
    refine inScope_of ?_
    simp only [absScope] at e
    cases h1 : absCode P cf (absScope P cf n N n0 K m) n N n0 K cur s with
    | none => rw [h1] at e; cases e
    | some r =>
      obtain ⟨y, s1⟩ := r
      rw [h1] at e
      refine wp_mono (absCode_sound hcf hfr hd h0 hn0 (absScope_sound m) (absScope_fr hfr m) cur M y s s1 a w hA hF h1) ?_
      intro e2 a2 w2 h2
      have h3 := h2.1
      cases y with
      | normal => cases e; cases e2 <;> simp only [AX.is] at h3; exact h2
      | exit i => cases e; cases e2 <;> simp only [AX.is] at h3; exact h2
      | goto i =>
        cases e2 <;> simp only [AX.is] at h3
        subst h3
        simp only [Exit.boxed]
        simp only at e
        cases hf : findLabel c i with
        | none => rw [hf] at e; cases e; exact h2
        | some rest =>
          rw [hf] at e
          obtain ⟨_, h4, h5, M2, h6, h7, h8, h9⟩ := h2
          intro b k cs
          obtain ⟨e3, a3, w3, h10, h11⟩ := absScope_sound m M2 c rest x s1 s' a2 w2 ⟨h7, h8, h4, h5⟩ (hF.step (absCode_fr hfr (absScope_fr hfr m) cur s _ s1 hF.1 h1)) e b k cs
          exact ⟨e3, a3, w3, h10.trans h6 h9, h11⟩
      | ret => cases e; cases e2 <;> simp only [AX.is] at h3; exact h2
end
end Go.Proofs.YtdkknhpdjcdmfaaGreat.Abs
