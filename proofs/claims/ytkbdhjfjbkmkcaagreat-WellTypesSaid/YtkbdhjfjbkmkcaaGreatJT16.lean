/- The abstract machine: code does what the machine says, if calls and drawn regions do. -/
import Derived.Test.YtkbdhjfjbkmkcaaGreatJT15
set_option linter.unusedSimpArgs false
set_option linter.unusedVariables false
namespace Go.Proofs.YtkbdhjfjbkmkcaaGreat.Abs
open Go Go.RowKit

theorem clearM_R {M : Mem} {K : List Nat} {t : Tmps} {a : Array Value} (h : TR M t a) : TR M (clearM K t) a := by
  intro i
  have : tget (clearM K t) i = tget t i ∨ tget (clearM K t) i = .junk := by
    unfold clearM
    induction K with
    | nil => exact .inr rfl
    | cons j K ih =>
      simp only [List.map_cons, tget_cons]
      split
      · rename_i e; left; rw [e]
      · exact ih
  rcases this with e | e
  · rw [e]; exact h i
  · rw [e]; exact .junk _

def InScope (P : Program) (c cur : Code) (Q : Exit → Act → World → Prop) (a : Act) (w : World) : Prop :=
  ∀ (b : Frame) (k : List Item) (cs : List Frame), ∃ e a' w', Q e a' w' ∧ Arrives P (lone (b.at a (.code cur :: .inScope c :: k)) cs w) b k cs e a' w'

def Exit.boxed (P : Program) (c : Code) (Q : Exit → Act → World → Prop) : Exit → Act → World → Prop
  | .goto l, a, w => match findLabel c l with
    | some rest => InScope P c rest Q a w
    | none => Q (.goto l) a w
  | e, a, w => Q e a w

theorem inScope_of {P : Program} {c cur : Code} {Q : Exit → Act → World → Prop} {a : Act} {w : World} (h : cur.wp P (Exit.boxed P c Q) a w) : InScope P c cur Q a w := by
  intro b k cs
  obtain ⟨e, a₁, w₁, hq, harr⟩ := h b (.inScope c :: k) cs
  cases e with
  | normal => exact ⟨.normal, a₁, w₁, hq, Steps.trans harr (.one step_inScope)⟩
  | exit id => exact ⟨.exit id, a₁, w₁, hq, fun k' hk => harr k' (by simp [exitTo, hk])⟩
  | goto l =>
    simp only [Exit.boxed] at hq
    cases hf : findLabel c l with
    | none =>
      rw [hf] at hq
      exact ⟨.goto l, a₁, w₁, hq, fun k' hk => harr k' (by simp [gotoIn, hf, hk])⟩
    | some rest =>
      rw [hf] at hq
      obtain ⟨e₂, a₂, w₂, hq₂, harr₂⟩ := hq b k cs
      exact ⟨e₂, a₂, w₂, hq₂, .of_steps (harr _ (by simp [gotoIn, hf])) harr₂⟩
  | ret => exact ⟨_, a₁, w₁, hq, harr⟩
  | panic ch => exact ⟨_, a₁, w₁, hq, harr⟩
  | outgrown => exact ⟨_, a₁, w₁, hq, harr⟩

theorem wp_scope_in {P : Program} {c : Code} {Q : Exit → Act → World → Prop} {a : Act} {w : World} (h : InScope P c c Q a w) : (Code.scope c).wp P Q a w := by
  intro b k cs
  obtain ⟨e, a', w', hq, harr⟩ := h b k cs
  exact ⟨e, a', w', hq, .of_steps (.one step_scope) harr⟩


/-! What is carried round a loop, in order. -/

section
variable {B n0 : Nat} {L : List (Option Nat)} {M M1 : Mem} {H H1 : Heap} {w w1 : World}

theorem CellsOK.cons {M1 M2 : Mem} {c c' : Leaf} {cs cs' : List Leaf} (h : CellOK M1 M2 c c') (k : CellsOK M1 M2 cs cs') : CellsOK M1 M2 (c :: cs) (c' :: cs') := by
  refine ⟨by simp [k.1], fun j hj => ?_⟩
  cases j with
  | zero => exact h
  | succ j => exact k.2 j (by simpa using hj)

theorem RowsOK.cons {M1 M2 : Mem} {c c' : List Leaf} {cs cs' : List (List Leaf)} (h : CellsOK M1 M2 c c') (k : RowsOK M1 M2 cs cs') : RowsOK M1 M2 (c :: cs) (c' :: cs') := by
  refine ⟨by simp [k.1], fun j hj => ?_⟩
  cases j with
  | zero => exact h
  | succ j => exact k.2 j (by simpa using hj)

theorem nils_virt {p : Nat} (hp : p < n0 + L.length) (e : Nat) : CellOK M1 (cutMem n0 L M1 H1 w1) .nils (.sl p e 0 0 0) := by
  intro u hu
  rw [hu.nils_inv]
  exact .slnil p e hp

theorem newCells_ok (h1 : Inv B M1 H1 w1) : ∀ (ks : List Nat) (cs : List Leaf) (p : Nat) (r : List Leaf × Heap), newCells H1 n0 L p ks cs = some r → p + (cellIds n0 ks cs).length ≤ L.length →
    CellsOK M1 (cutMem n0 L M1 H1 w1) cs r.1 ∧ AlL M1 (cutMem n0 L M1 H1 w1) H1 (cellIds n0 ks cs) r.2
  | [], cs, p, r, e, hp => by
    unfold newCells at e
    split at e
    · cases e
    · rename_i cs' h
      cases e
      exact ⟨cells_sound h1 h, by simp [cellIds, AlL]⟩
  | k :: ks, [], p, r, e, hp => by
    unfold newCells at e
    cases e
    exact ⟨⟨rfl, fun j hj => by simp at hj⟩, by simp [cellIds, AlL]⟩
  | 0 :: ks, c :: cs, p, r, e, hp => by
    unfold newCells at e
    simp only at e
    split at e
    · cases e
    · rename_i c' hc
      split at e
      · cases e
      · rename_i q hq
        cases e
        obtain ⟨g1, g2⟩ := newCells_ok h1 ks cs p q hq (by simpa [cellIds] using hp)
        exact ⟨g1.cons (fzT_sound h1 hc), by simpa [cellIds] using g2⟩
  | (e' + 1) :: ks, c :: cs, p, r, e, hp => by
    unfold newCells at e
    simp only at e
    simp only [cellIds, List.length_cons] at hp
    split at e
    · split at e
      · cases e
      · rename_i q hq
        cases e
        obtain ⟨g1, g2⟩ := newCells_ok h1 ks cs (p + 1) q hq (by omega)
        refine ⟨g1.cons (nils_virt (by omega) _), ?_⟩
        show AlL _ _ _ (ownId n0 .nils :: cellIds n0 ks cs) (_ :: q.2)
        exact ⟨.inl ⟨rfl, .inr ⟨e', rfl⟩⟩, g2⟩
    · split at e
      · cases e
      · rename_i c' hc
        split at e
        · cases e
        · rename_i o ho
          split at e
          · cases e
          · rename_i q hq
            cases e
            obtain ⟨g1, g2⟩ := newCells_ok h1 ks cs (p + 1) q hq (by omega)
            exact ⟨g1.cons (fzT_sound h1 hc), objOf_al h1 ho, g2⟩

theorem newRows_ok (h1 : Inv B M1 H1 w1) {ks : List Nat} : ∀ (es : List (List Leaf)) (p : Nat) (r : List (List Leaf) × Heap), newRows H1 n0 L ks p es = some r → p + (es.flatMap (cellIds n0 ks)).length ≤ L.length →
    RowsOK M1 (cutMem n0 L M1 H1 w1) es r.1 ∧ AlL M1 (cutMem n0 L M1 H1 w1) H1 (es.flatMap (cellIds n0 ks)) r.2
  | [], p, r, e, hp => by
    cases e
    exact ⟨⟨rfl, fun j hj => by simp at hj⟩, trivial⟩
  | cs :: es, p, r, e, hp => by
    unfold newRows at e
    split at e
    · cases e
    · rename_i r1 h2
      split at e
      · cases e
      · rename_i q hq
        cases e
        simp only [List.flatMap_cons, List.length_append] at hp
        obtain ⟨g1, g2⟩ := newCells_ok h1 ks cs p r1 h2 (by omega)
        have hl := g2.length
        obtain ⟨g3, g4⟩ := newRows_ok h1 es _ q hq (by omega)
        exact ⟨g3.cons g1, by rw [List.flatMap_cons]; exact g2.append g4⟩

theorem newRoot_ok (h1 : Inv B M1 H1 w1) {ks : List Nat} {p : Nat} {x : Option Nat} {o : Heap} (e : newRoot H1 n0 L p ks x = some o) (hp : p + (x :: insideIds H1 n0 ks x).length ≤ L.length) :
    AlL M1 (cutMem n0 L M1 H1 w1) H1 (x :: insideIds H1 n0 ks x) o := by
  unfold newRoot at e
  split at e
  · cases e
    have : insideIds H1 n0 ks none = [] := by unfold insideIds; split <;> rfl
    rw [this]
    exact ⟨.inl ⟨rfl, .inl rfl⟩, trivial⟩
  · rename_i id
    split at e
    · split at e
      · cases e
      · rename_i o' ho
        cases e
        exact ⟨objOf_al h1 ho, trivial⟩
    · rename_i k ks
      split at e
      · rename_i z es hes
        split at e
        · cases e
        · rename_i r hr
          cases e
          have hi : insideIds H1 n0 (k :: ks) (some id) = es.flatMap (cellIds n0 (k :: ks)) := by simp only [insideIds, hes]
          rw [hi] at hp ⊢
          simp only [List.length_cons] at hp
          obtain ⟨g1, g2⟩ := newRows_ok h1 es (p + 1) r hr (by omega)
          exact ⟨.inr ⟨id, _, _, rfl, hes, rfl, rfl, g1⟩, g2⟩
      · cases e

theorem newCells2_ok (h1 : Inv B M1 H1 w1) : ∀ (ks : List (Nat × List Nat)) (cs : List Leaf) (p : Nat) (r : List Leaf × Heap), newCells2 H1 n0 L p ks cs = some r → p + (cellIds2 H1 n0 ks cs).length ≤ L.length →
    CellsOK M1 (cutMem n0 L M1 H1 w1) cs r.1 ∧ AlL M1 (cutMem n0 L M1 H1 w1) H1 (cellIds2 H1 n0 ks cs) r.2
  | [], cs, p, r, e, hp => by
    unfold newCells2 at e
    split at e
    · cases e
    · rename_i cs' h
      cases e
      exact ⟨cells_sound h1 h, by simp [cellIds2, AlL]⟩
  | k :: ks, [], p, r, e, hp => by
    unfold newCells2 at e
    cases e
    exact ⟨⟨rfl, fun j hj => by simp at hj⟩, by simp [cellIds2, AlL]⟩
  | (0, k2) :: ks, c :: cs, p, r, e, hp => by
    unfold newCells2 at e
    simp only at e
    split at e
    · cases e
    · rename_i c' hc
      split at e
      · cases e
      · rename_i q hq
        cases e
        obtain ⟨g1, g2⟩ := newCells2_ok h1 ks cs p q hq (by simpa [cellIds2] using hp)
        exact ⟨g1.cons (fzT_sound h1 hc), by simpa [cellIds2] using g2⟩
  | (e' + 1, k2) :: ks, c :: cs, p, r, e, hp => by
    unfold newCells2 at e
    simp only at e
    simp only [cellIds2, List.length_append] at hp
    split at e
    · split at e
      · cases e
      · rename_i q hq
        cases e
        have hn : ownId n0 .nils :: insideIds H1 n0 k2 (ownId n0 .nils) = [none] := by
          simp only [ownId, refId]
          congr 1
          unfold insideIds; split <;> rfl
        rw [hn] at hp
        simp only [List.length_cons, List.length_nil] at hp
        obtain ⟨g1, g2⟩ := newCells2_ok h1 ks cs (p + 1) q hq (by omega)
        refine ⟨g1.cons (nils_virt (by omega) _), ?_⟩
        show AlL _ _ _ ((ownId n0 .nils :: insideIds H1 n0 k2 (ownId n0 .nils)) ++ cellIds2 H1 n0 ks cs) (_ :: q.2)
        rw [hn]
        exact ⟨.inl ⟨rfl, .inr ⟨e', rfl⟩⟩, g2⟩
    · split at e
      · cases e
      · rename_i c' hc
        split at e
        · cases e
        · rename_i o ho
          split at e
          · cases e
          · rename_i q hq
            cases e
            have g0 := newRoot_ok h1 ho (by omega)
            have hl := g0.length
            obtain ⟨g1, g2⟩ := newCells2_ok h1 ks cs (p + o.length) q hq (by omega)
            exact ⟨g1.cons (fzT_sound h1 hc), g0.append g2⟩

theorem newRows2_ok (h1 : Inv B M1 H1 w1) {kss : List (Nat × List Nat)} : ∀ (es : List (List Leaf)) (p : Nat) (r : List (List Leaf) × Heap), newRows2 H1 n0 L kss p es = some r → p + (es.flatMap (cellIds2 H1 n0 kss)).length ≤ L.length →
    RowsOK M1 (cutMem n0 L M1 H1 w1) es r.1 ∧ AlL M1 (cutMem n0 L M1 H1 w1) H1 (es.flatMap (cellIds2 H1 n0 kss)) r.2
  | [], p, r, e, hp => by
    cases e
    exact ⟨⟨rfl, fun j hj => by simp at hj⟩, trivial⟩
  | cs :: es, p, r, e, hp => by
    unfold newRows2 at e
    split at e
    · cases e
    · rename_i r1 h2
      split at e
      · cases e
      · rename_i q hq
        cases e
        simp only [List.flatMap_cons, List.length_append] at hp
        obtain ⟨g1, g2⟩ := newCells2_ok h1 kss cs p r1 h2 (by omega)
        have hl := g2.length
        obtain ⟨g3, g4⟩ := newRows2_ok h1 es _ q hq (by omega)
        exact ⟨g3.cons g1, by rw [List.flatMap_cons]; exact g2.append g4⟩

theorem newRoot2_ok (h1 : Inv B M1 H1 w1) {kss : List (Nat × List Nat)} {p : Nat} {x : Option Nat} {o : Heap} (e : newRoot2 H1 n0 L p kss x = some o) (hp : p + (x :: insideIds2 H1 n0 kss x).length ≤ L.length) :
    AlL M1 (cutMem n0 L M1 H1 w1) H1 (x :: insideIds2 H1 n0 kss x) o := by
  unfold newRoot2 at e
  split at e
  · cases e
    exact ⟨.inl ⟨rfl, .inl rfl⟩, trivial⟩
  · rename_i id
    split at e
    · rename_i z es hes
      split at e
      · cases e
      · rename_i r hr
        cases e
        have hi : insideIds2 H1 n0 kss (some id) = es.flatMap (cellIds2 H1 n0 kss) := by simp only [insideIds2, hes]
        rw [hi] at hp ⊢
        simp only [List.length_cons] at hp
        obtain ⟨g1, g2⟩ := newRows2_ok h1 es (p + 1) r hr (by omega)
        exact ⟨.inr ⟨id, _, _, rfl, hes, rfl, rfl, g1⟩, g2⟩
    · cases e

theorem kdNew_ok (h1 : Inv B M1 H1 w1) {p : Nat} {v : V} {kd : Kd} {r : V × Heap} (e : kdNew H1 n0 L p v kd = some r) (hp : p + (kdIds H1 n0 v kd).length ≤ L.length) :
    (∀ u, VV M1 v u → VV (cutMem n0 L M1 H1 w1) r.1 u) ∧ AlL M1 (cutMem n0 L M1 H1 w1) H1 (kdIds H1 n0 v kd) r.2 := by
  cases kd with
  | p =>
    simp only [kdNew] at e
    split at e
    · cases e
    · rename_i v' hv
      cases e
      exact ⟨fun u hu => fzV_sound h1 hv hu, trivial⟩
  | m =>
    simp only [kdNew] at e
    split at e
    · rename_i v' o hv ho
      cases e
      refine ⟨fun u hu => fzV_sound h1 hv hu, ?_⟩
      have := newRoot_ok (ks := []) h1 ho (by simpa [kdIds, insideIds] using hp)
      simpa [kdIds, insideIds] using this
    · cases e
  | s z ks =>
    simp only [kdNew] at e
    split at e
    · cases e
      have hi : kdIds H1 n0 (.one .nils) (.s z ks) = [none] := by
        simp only [kdIds, rootOf, ownId, refId]
        congr 1
        unfold insideIds; split <;> rfl
      rw [hi] at hp ⊢
      refine ⟨fun u hu => ?_, .inl ⟨rfl, .inr ⟨z, rfl⟩⟩, trivial⟩
      exact .one (nils_virt (by simp at hp; omega) z u hu.one_inv)
    · split at e
      · rename_i v' o hv ho
        cases e
        exact ⟨fun u hu => fzV_sound h1 hv hu, newRoot_ok h1 ho hp⟩
      · cases e
  | b ks =>
    simp only [kdNew] at e
    split at e
    · rename_i v' o hv ho
      cases e
      exact ⟨fun u hu => fzV_sound h1 hv hu, newRoot_ok h1 ho hp⟩
    · cases e
  | b2 kss =>
    simp only [kdNew] at e
    split at e
    · rename_i v' o hv ho
      cases e
      exact ⟨fun u hu => fzV_sound h1 hv hu, newRoot2_ok h1 ho hp⟩
    · cases e
  | r id =>
    simp only [kdNew] at e
    split at e
    · cases e
    · rename_i v' hv
      cases e
      exact ⟨fun u hu => fzV_sound h1 hv hu, trivial⟩
  | x id => cases e; exact ⟨fun u hu => .junk _, trivial⟩
  | it b => cases e; exact ⟨fun u hu => .junk _, trivial⟩

theorem kdAll_ok (h1 : Inv B M1 H1 w1) {t : Tmps} {a : Array Value} (hT : TR M1 t a) : ∀ (K : List (Nat × Kd)) (p : Nat) (q : Tmps × Heap), kdAll H1 n0 L t p K = some q → p + (kdL H1 n0 t K).length ≤ L.length →
    TR (cutMem n0 L M1 H1 w1) q.1 a ∧ AlL M1 (cutMem n0 L M1 H1 w1) H1 (kdL H1 n0 t K) q.2
  | [], p, q, e, hp => by cases e; exact ⟨fun i => .junk _, trivial⟩
  | k :: K, p, q, e, hp => by
    unfold kdAll at e
    split at e
    · cases e
    · rename_i r hr
      split at e
      · cases e
      · rename_i q' hq
        cases e
        simp only [kdL, List.length_append] at hp
        obtain ⟨g1, g2⟩ := kdNew_ok h1 hr (by omega)
        have hl := g2.length
        obtain ⟨g3, g4⟩ := kdAll_ok h1 hT K _ q' hq (by omega)
        refine ⟨fun i => ?_, g2.append g4⟩
        rw [tget_cons]
        split
        · rename_i hi; subst hi; exact g1 _ (hT _)
        · exact g3 i

def FrC (n0 : Nat) (H0 : Heap) (s : St) : Prop := n0 ≤ s.heap.length ∧ ∀ id, id < n0 → id ∉ s.ws → s.heap[id]? = H0[id]?

theorem FrC.step {n0 : Nat} {H0 : Heap} {s s' : St} (h : FrC n0 H0 s) (k : FrS n0 s s') : FrC n0 H0 s' :=
  ⟨k.1 h.1, fun id hid hn => (k.2.2 id hid hn).trans (h.2 id hid fun hx => hn (k.2.1 id hx hid))⟩

theorem tidy_ok (h0 : Inv B M H w) (hn : H.length = n0) {K : List (Nat × Kd)} {s : St} (h1 : Inv B M1 s.heap w1) (hfr : FrC n0 H s) {a : Array Value} (hT : TR M1 s.tmps a) :
    ∃ M2, ExtN n0 M1 M2 ∧ Inv B M2 (tidy n0 K s).heap w1 ∧ TR M2 (tidy n0 K s).tmps a := by
  unfold tidy
  split
  · rename_i s' e
    obtain ⟨hok, q, h', hq, hh, rfl⟩ := tidyO_some e
    obtain ⟨g1, g2⟩ := kdAll_ok h1 hT K 0 q hq (by omega)
    obtain ⟨g3, g4⟩ := fzH_ok h1 hfr.1 hh
    have := cut_inv h0 hn h1 (ws := wsOf n0 s.ws) ⟨hfr.1, fun id hid hnw => hfr.2 id hid fun hx => hnw ((mem_ws _ _ _).2 ⟨hx, hid⟩)⟩ hok g3 g4 g2
    exact ⟨_, this.1, this.2, g1⟩
  · exact ⟨M1, .refl _ _, h1, clearM_R hT⟩
end

def CPostN (B lo n0 : Nat) (M : Mem) (w : World) (N : Nat) (x : AX) (s : St) (e : Exit) (a' : Act) (w' : World) : Prop :=
  x.is e ∧ Marks lo w' a'.defers ∧ a'.tmps.size = N ∧ ∃ M', ExtN n0 M M' ∧ Inv B M' s.heap w' ∧ TR M' s.tmps a'.tmps ∧ Below B w w'

theorem CPost.toN {B lo n0 N : Nat} {ds : List Deferred} {M : Mem} {w : World} {x : AX} {s : St} {e : Exit} {a' : Act} {w' : World} (hm : Marks lo w ds) (h : CPost B ds M w N x s e a' w') : CPostN B lo n0 M w N x s e a' w' := by
  obtain ⟨h1, h2, h3, M', h4, h5, h6, h7⟩ := h
  exact ⟨h1, by rw [h2]; exact hm.step h7, h3, M', h4.below, h5, h6, h7⟩

structure AtN (B lo : Nat) (M : Mem) (N : Nat) (s : St) (a : Act) (w : World) : Prop where
  inv : Inv B M s.heap w
  tr : TR M s.tmps a.tmps
  defers : Marks lo w a.defers
  size : a.tmps.size = N

theorem AtN.at {B lo : Nat} {M : Mem} {N : Nat} {s : St} {a : Act} {w : World} (h : AtN B lo M N s a w) : At B a.defers M N s a w := ⟨h.inv, h.tr, rfl, h.size⟩

theorem CPostN.trans {B lo n0 N : Nat} {M M1 : Mem} {w w1 : World} {x : AX} {s : St} {e : Exit} {a' : Act} {w' : World} (hE : ExtN n0 M M1) (hB : Below B w w1) (h : CPostN B lo n0 M1 w1 N x s e a' w') : CPostN B lo n0 M w N x s e a' w' := by
  obtain ⟨h1, h2, h3, M', h4, h5, h6, h7⟩ := h
  exact ⟨h1, h2, h3, M', hE.trans h4, h5, h6, hB.trans h7⟩

def DrawOK (P : Program) (cf : CF) : Prop :=
  ∀ (ro : Option Nat) (B : Nat) (ds : List Deferred) (M : Mem) (N : Nat) (ops : Array Oper) (id : Nat) (s s' : St) (a : Act) (w : World), At B ds M N s a w → absDraw P cf N ops s = some s' → wpR ro P (Code.region id ops true) (CPost B ds M w N .normal s') a w

def ScOK (P : Program) (N n0 B lo : Nat) (H0 : Heap) (sc : Code → Code → St → Option (AX × St)) : Prop :=
  ∀ (M : Mem) (c cur : Code) (x : AX) (s s' : St) (a : Act) (w : World), AtN B lo M N s a w → FrC n0 H0 s → sc c cur s = some (x, s') → InScope P c cur (CPostN B lo n0 M w N x s') a w

def ScFr (n0 : Nat) (sc : Code → Code → St → Option (AX × St)) : Prop := ∀ c cur s x s', n0 ≤ s.heap.length → sc c cur s = some (x, s') → FrS n0 s s'

theorem iter_sound {P : Program} {N B lo n0 : Nat} {H0 : Heap} {f : St → Option (AX × St)} {c : Code}
    (hf : ∀ (M : Mem) (x : AX) (s s' : St) (a : Act) (w : World), AtN B lo M N s a w → FrC n0 H0 s → f s = some (x, s') → c.wp P (CPostN B lo n0 M w N x s') a w)
    (hfr : ∀ s x s', n0 ≤ s.heap.length → f s = some (x, s') → FrS n0 s s')
    {M : Mem} {n : Nat} {x : AX} {s s' : St} {a : Act} {w : World} (hA : AtN B lo M N s a w) (hF : FrC n0 H0 s) (e : iter f n s = some (x, s')) : (Code.loop c).wp P (CPostN B lo n0 M w N x s') a w := by
  refine wp_loop_n (fun n a1 w1 => ∃ M1 s1, AtN B lo M1 N s1 a1 w1 ∧ FrC n0 H0 s1 ∧ ExtN n0 M M1 ∧ Below B w w1 ∧ iter f n s1 = some (x, s')) ?_ (n := n) ⟨M, s, hA, hF, .refl _ M, .refl B w, e⟩
  rintro n a1 w1 ⟨M1, s1, hA1, hF1, hE1, hB1, e1⟩
  cases n with
  | zero => cases e1
  | succ n =>
    unfold iter at e1
    cases hfs : f s1 with
    | none => rw [hfs] at e1; cases e1
    | some r =>
      obtain ⟨y, s2⟩ := r
      rw [hfs] at e1
      refine wp_mono (hf M1 y s1 s2 a1 w1 hA1 hF1 hfs) ?_
      intro e2 a2 w2 h2
      obtain ⟨h3, h4, h5, M2, h6, h7, h8, h9⟩ := h2
      cases y with
      | normal =>
        cases e2 <;> simp only [AX.is] at h3
        exact ⟨n, Nat.lt_succ_self n, M2, s2, ⟨h7, h8, h4, h5⟩, hF1.step (hfr _ _ _ hF1.1 hfs), hE1.trans h6, hB1.trans h9, e1⟩
      | exit i => cases e1; cases e2 <;> simp only [AX.is] at h3; subst h3; exact ⟨rfl, h4, h5, M2, hE1.trans h6, h7, h8, hB1.trans h9⟩
      | goto i => cases e1; cases e2 <;> simp only [AX.is] at h3; subst h3; exact ⟨rfl, h4, h5, M2, hE1.trans h6, h7, h8, hB1.trans h9⟩
      | ret => cases e1; cases e2 <;> simp only [AX.is] at h3; exact ⟨trivial, h4, h5, M2, hE1.trans h6, h7, h8, hB1.trans h9⟩

def ItOK (P : Program) (K : List (Nat × Kd)) : Prop :=
  ∀ (gf : Nat) (b : BW) (es : List (List Leaf)) (xs : List (List V)) (S : Stab) (lb : Array Value), itOf gf K = some b → itRows P b es = some xs → VL (memS S) [.one (.iptr [.isl es] 0)] lb →
    ItStops P gf lb S xs ∧ (∀ args w, (callFunc gf args).run P w = .ok (.enter gf args) w)

theorem rangeOf_some {P : Program} {K : List (Nat × Kd)} {ok : Bool} {v : V} {xs : List (List V)} (e : rangeOf P K ok v = some xs) :
    ok = true ∧ ∃ gf es b, v = .one (.fn gf [.iptr [.isl es] 0]) ∧ itOf gf K = some b ∧ itRows P b es = some xs := by
  unfold rangeOf at e
  split at e
  · split at e
    · rename_i gf es _ b hb
      exact ⟨rfl, gf, es, b, rfl, hb, e⟩
    · cases e
  · cases e

theorem bwdUp_len {P : Program} {T : TypeId} {g : Bool} : ∀ (es : List (List Leaf)) (i : Nat) (r : List (List V)), bwdUp P T g i es = some r → ∀ x, x ∈ r → x.length = 2
  | [], i, r, e, x, hx => by cases e; cases hx
  | cs :: es, i, r, e, x, hx => by
    unfold bwdUp at e
    split at e
    · split at e
      · split at e
        · rename_i r' h
          cases e
          rcases List.mem_cons.1 hx with rfl | hx
          · rfl
          · exact bwdUp_len es (i + 1) r' h x hx
        · cases e
      · cases e
    · cases e

theorem itRows_len {P : Program} {b : BW} {es : List (List Leaf)} {xs : List (List V)} (e : itRows P b es = some xs) : ∀ x, x ∈ xs → x.length = 2 := by
  unfold itRows at e
  split at e
  · split at e
    · split at e
      · rename_i r h
        cases e
        intro x hx
        exact bwdUp_len es 0 r h x (List.mem_reverse.1 hx)
      · cases e
    · cases e
  · cases e

theorem TR_setAll {M : Mem} {N : Nat} : ∀ (ps : List Nat) (xs : List V) (ys : List Value) (t : Tmps) (a : Array Value), TR M t a → a.size = N → xs.length = ys.length → (∀ i, i < xs.length → VV M (xs.getD i .junk) (ys.getD i undef)) →
    TR M (setAll N ps xs t) ((ps.zip ys).foldl (fun t (p, v) => t.setIfInBounds p v) a) ∧ ((ps.zip ys).foldl (fun t (p, v) => t.setIfInBounds p v) a).size = N
  | [], xs, ys, t, a, h, hN, hl, hv => by simp only [setAll, List.zip_nil_left, List.foldl_nil]; exact ⟨h, hN⟩
  | p :: ps, [], ys, t, a, h, hN, hl, hv => by
    have : ys = [] := List.length_eq_zero_iff.1 (by rw [← hl]; rfl)
    subst this
    simp only [setAll, List.zip_nil_right, List.foldl_nil]; exact ⟨h, hN⟩
  | p :: ps, x :: xs, [], t, a, h, hN, hl, hv => by simp at hl
  | p :: ps, x :: xs, y :: ys, t, a, h, hN, hl, hv => by
    simp only [setAll, List.zip_cons_cons, List.foldl_cons]
    obtain ⟨k1, k2, _⟩ := TR_put (a := ⟨a, []⟩) h hN (some p) (v := x) (u := y) (hv 0 (by simp))
    exact TR_setAll ps xs ys _ _ k1 k2 (by simpa using hl) fun i hi => hv (i + 1) (by simpa using hi)

theorem TR_round {M : Mem} {N : Nat} {ps : Array Tmp} {x : List V} {y : Array Value} {t : Tmps} {a : Array Value} (h : TR M t a) (hN : a.size = N) (hv : VL M x y) :
    TR M (setAll N ps.toList x t) ((ps.zip y).foldl (fun t (p, v) => t.setIfInBounds p v) a) ∧ ((ps.zip y).foldl (fun t (p, v) => t.setIfInBounds p v) a).size = N := by
  have := TR_setAll ps.toList x y.toList t a h hN (by rw [← hv.1]; simp) fun i hi => by rw [getD_toList]; exact hv.2 i hi
  rw [← Array.foldl_toList, Array.toList_zip]
  exact this

section
variable {P : Program} {cf : CF} (hcf : CFOK P cf) (hd : DrawOK P cf) {N n0 B : Nat} {ro : Option Nat} {ds : List Deferred} {n : Nat} {K : List (Nat × Kd)}
include hcf hd

omit hcf hd in
theorem atR_plain {id : Nat} (h : hasR id K = false) (s : St) : atR n0 K id s = s := by
  unfold atR; rw [h]; rfl

theorem absCode_flat {sc : Code → Code → St → Option (AX × St)} (c : Code) :
    flatC K c = true → ∀ (M : Mem) (x : AX) (s s' : St) (a : Act) (w : World), At B ds M N s a w → absCode P cf sc n N n0 K c s = some (x, s') → wpR ro P c (CPost B ds M w N x s') a w := by
  induction c with
  | skip => intro hp M x s s' a w hA e; cases e; exact wpIn_skip ⟨trivial, hA.defers, hA.size, M, .refl M, hA.inv, hA.tr, .refl B w⟩
  | region id ops draw =>
    intro hp M x s s' a w hA e
    have hr : hasR id K = false := by simpa [flatC] using hp
    cases draw with
    | false =>
      simp only [absCode] at e
      obtain ⟨s1, e1, e2⟩ := Option.map_eq_some_iff.1 e
      rw [atR_plain hr] at e2
      cases e2
      refine wpIn_region ?_
      rw [List.range_eq_range']
      have := absOps_sound hcf (ro := ro) (ops := ops) (Q := CPost B ds M w N .normal s') ops.toList 0 M s s' a w (fun j => by simp) hA (.refl M) (.refl B w) e1 (fun a' w' h _ => h)
      simpa using this
    | true =>
      simp only [absCode] at e
      obtain ⟨s1, e1, e2⟩ := Option.map_eq_some_iff.1 e
      rw [atR_plain hr] at e2
      cases e2
      exact hd ro B ds M N ops id s s' a w hA e1
  | seq x1 x2 ih1 ih2 =>
    intro hp M x s s' a w hA e
    simp only [flatC, Bool.and_eq_true] at hp
    refine wpIn_seq ?_
    simp only [absCode] at e
    cases h1 : absCode P cf sc n N n0 K x1 s with
    | none => rw [h1] at e; cases e
    | some r =>
      obtain ⟨y, s1⟩ := r
      rw [h1] at e
      refine wpIn_mono (ih1 hp.1 M y s s1 a w hA h1) ?_
      intro e2 a2 w2 h2
      cases y with
      | normal =>
        obtain ⟨h3, h4, h5, M2, h6, h7, h8, h9⟩ := h2
        cases e2 <;> simp only [AX.is] at h3
        exact wpIn_mono (ih2 hp.2 M2 x s1 s' a2 w2 ⟨h7, h8, h4, h5⟩ e) fun _ _ _ h => h.trans h6 h9
      | exit i => cases e; have h3 := h2.1; cases e2 <;> simp only [AX.is] at h3; exact h2
      | goto i => cases e; have h3 := h2.1; cases e2 <;> simp only [AX.is] at h3; exact h2
      | ret => cases e; have h3 := h2.1; cases e2 <;> simp only [AX.is] at h3; exact h2
  | cond c x1 x2 ih1 ih2 =>
    intro hp M x s s' a w hA e
    simp only [flatC, Bool.and_eq_true] at hp
    simp only [absCode] at e
    have hc := ev_V hA.tr c
    split at e
    · rename_i hb
      rw [hb] at hc
      exact wpIn_cond_true hc.one_inv.bool_inv (ih1 hp.1 M x s s' a w hA e)
    · rename_i hb
      rw [hb] at hc
      exact wpIn_cond_false hc.one_inv.bool_inv (ih2 hp.2 M x s s' a w hA e)
    · cases e
  | block id c ih =>
    intro hp M x s s' a w hA e
    refine wpIn_block ?_
    simp only [absCode] at e
    cases h1 : absCode P cf sc n N n0 K c s with
    | none => rw [h1] at e; cases e
    | some r =>
      obtain ⟨y, s1⟩ := r
      rw [h1] at e
      refine wpIn_mono (ih hp M y s s1 a w hA h1) ?_
      intro e2 a2 w2 h2
      have h3 := h2.1
      cases y with
      | normal => cases e; cases e2 <;> simp only [AX.is] at h3; exact h2
      | exit i =>
        cases e2 <;> simp only [AX.is] at h3
        subst h3
        simp only [Exit.inBlock]
        simp only at e
        split at e
        · rename_i hi; cases e; rw [if_pos hi]; exact ⟨trivial, h2.2⟩
        · rename_i hi; cases e; rw [if_neg hi]; exact h2
      | goto i => cases e; cases e2 <;> simp only [AX.is] at h3; exact h2
      | ret => cases e; cases e2 <;> simp only [AX.is] at h3; exact h2
  | loop c ih => intro hp; cases hp
  | rangeFunc f ps as body => intro hp; cases hp
  | exit id => intro hp M x s s' a w hA e; cases e; exact wpIn_exit ⟨rfl, hA.defers, hA.size, M, .refl M, hA.inv, hA.tr, .refl B w⟩
  | scope c ih => intro hp; cases hp
  | label l => intro hp M x s s' a w hA e; cases e; exact wpIn_label ⟨trivial, hA.defers, hA.size, M, .refl M, hA.inv, hA.tr, .refl B w⟩
  | goto l => intro hp M x s s' a w hA e; cases e; exact wpIn_goto ⟨rfl, hA.defers, hA.size, M, .refl M, hA.inv, hA.tr, .refl B w⟩
  | ret => intro hp M x s s' a w hA e; cases e; exact wpIn_ret ⟨trivial, hA.defers, hA.size, M, .refl M, hA.inv, hA.tr, .refl B w⟩
  | refuse why => intro hp M x s s' a w hA e; simp [absCode] at e
end

theorem Marks.cons {lo D : Nat} {w W : World} {ds : List Deferred} (h : Marks lo w ds) (hm : MK w W) (hs : w.heap.size ≤ W.heap.size) (hD : w.heap.size ≤ D) (hd : W.heap[D]? = some (.deferred (some []))) :
    Marks lo W ({ target := .collected D, args := #[] } :: ds) := by
  obtain ⟨h0, Ds, h1, h2, h3⟩ := h
  refine ⟨Nat.le_trans h0 hs, D :: Ds, by rw [h1]; rfl, List.nodup_cons.2 ⟨fun hx => ?_, h2⟩, fun E hE => ?_⟩
  · have := (Array.getElem?_eq_some_iff.1 (h3 D hx).2).1; omega
  · rcases List.mem_cons.1 hE with rfl | hE
    · exact ⟨by omega, hd⟩
    · exact ⟨(h3 E hE).1, hm _ _ (h3 E hE).2 rfl⟩

section
variable {P : Program} {cf : CF} (hcf : CFOK P cf) (hfr : CFFr cf) (hd : DrawOK P cf) {N n0 B lo : Nat} {M0 : Mem} {H0 : Heap} {w0 : World} (h0 : Inv B M0 H0 w0) (hn0 : H0.length = n0) {n : Nat} {K : List (Nat × Kd)} (hk : ItOK P K)
include hcf hfr hd h0 hn0 hk

omit hcf hfr hd h0 hn0 hk in
theorem killT_R {M : Mem} {id : Nat} {T : Tmps} {a : Array Value} (h : TR M T a) : ∀ (K : List (Nat × Kd)), TR M (killT id K T) a
  | [] => h
  | (i, .x j) :: K => by
    have ih := killT_R (id := id) h K
    show TR M (if j == id then (i - 1000, V.junk) :: killT id K T else killT id K T) a
    generalize i - 1000 = m
    split
    · intro n
      show VV M (match Nat.beq m n with | true => V.junk | false => tget (killT id K T) n) _
      split
      · exact .junk _
      · exact ih n
    · exact ih
  | (i, .p) :: K => killT_R (id := id) h K
  | (i, .s _ _) :: K => killT_R (id := id) h K
  | (i, .b _) :: K => killT_R (id := id) h K
  | (i, .b2 _) :: K => killT_R (id := id) h K
  | (i, .m) :: K => killT_R (id := id) h K
  | (i, .r _) :: K => killT_R (id := id) h K
  | (i, .it _) :: K => killT_R (id := id) h K
omit hcf hfr hd hk in
theorem atR_ok {ds : List Deferred} {M : Mem} {w : World} {id : Nat} {s : St} {a' : Act} {w' : World} {e : Exit} (hm : Marks lo w ds) (hF : FrC n0 H0 s) (h : CPost B ds M w N .normal s e a' w') : CPostN B lo n0 M w N .normal (atR n0 K id s) e a' w' := by
  unfold atR
  split
  · obtain ⟨h1, h2, h3, M', h4, h5, h6, h7⟩ := h
    obtain ⟨M2, k1, k2, k3⟩ := tidy_ok h0 hn0 (K := K) (s := ⟨killT id K s.tmps, s.heap, s.ws⟩) h5 hF (killT_R h6 K)
    exact ⟨h1, by rw [h2]; exact hm.step h7, h3, M2, h4.below.trans k1, k2, k3, h7⟩
  · exact h.toN hm

theorem absCode_sound {sc : Code → Code → St → Option (AX × St)} (hsc : ScOK P N n0 B lo H0 sc) (hscf : ScFr n0 sc) (c : Code) :
    ∀ (M : Mem) (x : AX) (s s' : St) (a : Act) (w : World), AtN B lo M N s a w → FrC n0 H0 s → absCode P cf sc n N n0 K c s = some (x, s') → c.wp P (CPostN B lo n0 M w N x s') a w := by
  have fr : ∀ (c : Code) {s : St} {x : AX} {s' : St}, FrC n0 H0 s → absCode P cf sc n N n0 K c s = some (x, s') → FrC n0 H0 s' := fun c {s x s'} h e => h.step (absCode_fr hfr hscf c s x s' h.1 e)
  induction c with
  | skip => intro M x s s' a w hA hF e; cases e; exact wp_skip ⟨trivial, hA.defers, hA.size, M, .refl _ M, hA.inv, hA.tr, .refl B w⟩
  | region id ops draw =>
    intro M x s s' a w hA hF e
    cases draw with
    | false =>
      simp only [absCode] at e
      obtain ⟨s1, e1, e2⟩ := Option.map_eq_some_iff.1 e
      cases e2
      refine wpR_none.1 (wpIn_region ?_)
      rw [List.range_eq_range']
      have := absOps_sound hcf (ro := none) (ops := ops) (Q := CPostN B lo n0 M w N .normal (atR n0 K id s1)) ops.toList 0 M s s1 a w (fun j => by simp) hA.at (.refl M) (.refl B w) e1 (fun a' w' h _ => atR_ok h0 hn0 hA.defers (hF.step (absOps_fr hfr _ s s1 hF.1 e1)) h)
      simpa using this
    | true =>
      simp only [absCode] at e
      obtain ⟨s1, e1, e2⟩ := Option.map_eq_some_iff.1 e
      cases e2
      exact wp_mono (wpR_none.1 (hd none B a.defers M N ops id s s1 a w hA.at e1)) fun _ _ _ h => atR_ok h0 hn0 hA.defers (hF.step (absDraw_fr hfr hF.1 e1)) h
  | seq x1 x2 ih1 ih2 =>
    intro M x s s' a w hA hF e
    refine wp_seq ?_
    simp only [absCode] at e
    cases h1 : absCode P cf sc n N n0 K x1 s with
    | none => rw [h1] at e; cases e
    | some r =>
      obtain ⟨y, s1⟩ := r
      rw [h1] at e
      refine wp_mono (ih1 M y s s1 a w hA hF h1) ?_
      intro e2 a2 w2 h2
      cases y with
      | normal =>
        obtain ⟨h3, h4, h5, M2, h6, h7, h8, h9⟩ := h2
        cases e2 <;> simp only [AX.is] at h3
        exact wp_mono (ih2 M2 x s1 s' a2 w2 ⟨h7, h8, h4, h5⟩ (fr x1 hF h1) e) fun _ _ _ h => h.trans h6 h9
      | exit i => cases e; have h3 := h2.1; cases e2 <;> simp only [AX.is] at h3; exact h2
      | goto i => cases e; have h3 := h2.1; cases e2 <;> simp only [AX.is] at h3; exact h2
      | ret => cases e; have h3 := h2.1; cases e2 <;> simp only [AX.is] at h3; exact h2
  | cond c x1 x2 ih1 ih2 =>
    intro M x s s' a w hA hF e
    simp only [absCode] at e
    have hc := ev_V hA.tr c
    split at e
    · rename_i hb
      rw [hb] at hc
      exact wp_cond_true hc.one_inv.bool_inv (ih1 M x s s' a w hA hF e)
    · rename_i hb
      rw [hb] at hc
      exact wp_cond_false hc.one_inv.bool_inv (ih2 M x s s' a w hA hF e)
    · cases e
  | block id c ih =>
    intro M x s s' a w hA hF e
    refine wp_block ?_
    simp only [absCode] at e
    cases h1 : absCode P cf sc n N n0 K c s with
    | none => rw [h1] at e; cases e
    | some r =>
      obtain ⟨y, s1⟩ := r
      rw [h1] at e
      refine wp_mono (ih M y s s1 a w hA hF h1) ?_
      intro e2 a2 w2 h2
      have h3 := h2.1
      cases y with
      | normal => cases e; cases e2 <;> simp only [AX.is] at h3; exact h2
      | exit i =>
        cases e2 <;> simp only [AX.is] at h3
        subst h3
        simp only [Exit.inBlock]
        simp only at e
        split at e
        · rename_i hi; cases e; rw [if_pos hi]; exact ⟨trivial, h2.2⟩
        · rename_i hi; cases e; rw [if_neg hi]; exact h2
      | goto i => cases e; cases e2 <;> simp only [AX.is] at h3; exact h2
      | ret => cases e; cases e2 <;> simp only [AX.is] at h3; exact h2
  | loop c ih =>
    intro M x s s' a w hA hF e
    simp only [absCode] at e
    obtain ⟨M2, t1, t2, t3⟩ := tidy_ok (K := K) h0 hn0 hA.inv hF hA.tr
    have hA2 : AtN B lo M2 N (tidy n0 K s) a w := ⟨t2, t3, hA.defers, hA.size⟩
    have hF2 := hF.step (tidy_fr (K := K) hF.1)
    refine wp_mono (iter_sound (H0 := H0) (f := fun s => tidyR n0 K (absCode P cf sc n N n0 K c s)) ?_ ?_ hA2 hF2 e) fun _ _ _ h => h.trans t1 (.refl B w)
    · intro M1 y s1 s2 a1 w1 hA1 hF1 e1
      obtain ⟨s3, h3, rfl⟩ := tidyR_some e1
      refine wp_mono (ih M1 y s1 s3 a1 w1 hA1 hF1 h3) ?_
      intro e2 a2 w2 h2
      obtain ⟨k1, k2, k3, M3, k4, k5, k6, k7⟩ := h2
      obtain ⟨M4, q1, q2, q3⟩ := tidy_ok (K := K) h0 hn0 k5 (fr c hF1 h3) k6
      exact ⟨k1, k2, k3, M4, k4.trans q1, q2, q3, k7⟩
    · intro s1 y s2 hl e1
      obtain ⟨s3, h3, rfl⟩ := tidyR_some e1
      have h5 := absCode_fr hfr hscf c s1 y s3 hl h3
      exact h5.trans (tidy_fr (h5.1 hl))
  | rangeFunc g ps as body ih1 ih2 =>
    intro M x s s' a w hA hF e
    simp only [absCode] at e
    split at e
    · rename_i xs hx
      obtain ⟨hok, gf, es, b, hv, hb, hrows⟩ := rangeOf_some hx
      simp only [Bool.and_eq_true, beq_iff_eq] at hok
      obtain ⟨⟨hp2, hpa⟩, hpb⟩ := hok
      have hv' := ev_V hA.tr g
      rw [hv] at hv'
      obtain ⟨lb, hg, hl1, hl2⟩ := hv'.one_inv.fn_inv
      have hlb : VL (memS M.stab) [.one (.iptr [.isl es] 0)] lb := by
        refine ⟨hl1, fun i hi => ?_⟩
        have hi0 : i = 0 := by simpa using hi
        subst hi0
        obtain ⟨bb, o, arr, e1, e2, e3, e4⟩ := (hl2 0 (by simp)).iptr_inv
        refine .one (.pure ?_)
        rw [e1]
        exact .iptr _ _ bb o arr e2 e3 e4
      obtain ⟨hit, heg⟩ := hk gf b es xs M.stab lb hb hrows hlb
      obtain ⟨M2, t1, t2, t3⟩ := tidy_ok (K := K) h0 hn0 hA.inv hF hA.tr
      have hF2 := hF.step (tidy_fr (K := K) hF.1)
      have hlen := itRows_len hrows
      have hBw : B ≤ w.heap.size := hA.inv.base
      obtain ⟨f, hf⟩ : ∃ f, f = roundR N n0 K ps.toList (fun s => absCode P cf sc n N n0 K as s) (fun s => absCode P cf sc n N n0 K body s) := ⟨_, rfl⟩
      rw [← hf] at e
      have hffr : ∀ v s x s', n0 ≤ s.heap.length → f v s = some (x, s') → FrS n0 s s' := by rw [hf]; exact roundR_fr (absCode_fr hfr hscf as) (absCode_fr hfr hscf body)
      refine wpR_none.1 (wpR_rangeFunc (S := M.stab) (xs := xs) hg heg hit (fun x hx => (hlen x hx).trans hp2.symm)
        (fun i W => ∃ (M1 : Mem) (s1 : St), Inv B M1 s1.heap W ∧ TR M1 s1.tmps a.tmps ∧ FrC n0 H0 s1 ∧ ExtN n0 M M1 ∧ Below B w W ∧ rangeGo f (xs.drop i) s1 = some (x, s'))
        (fun c W => ∃ e', (match c with | .ret => x = .ret ∧ e' = Exit.ret | .exit id => x = .exit id ∧ e' = .exit id | .goto l => x = .goto l ∧ e' = .goto l | _ => False) ∧ ∃ M1, Inv B M1 s'.heap W ∧ TR M1 s'.tmps a.tmps ∧ ExtN n0 M M1 ∧ Below B w W)
        (fun i a1 W => ∃ (M1 : Mem) (s1 : St) (y : Unit) (s2 : St), Inv B M1 s2.heap W ∧ TR M1 s2.tmps a1.tmps ∧ a1.tmps.size = N ∧ TR M1 s1.tmps a.tmps ∧ FrC n0 H0 s2 ∧ ExtN n0 M M1 ∧ Below B w W ∧ (match absCode P cf sc n N n0 K body s2 with
          | some (.normal, s3) => rangeGo f (xs.drop (i + 1)) (tidy n0 K ⟨s1.tmps, s3.heap, s3.ws⟩) = some (x, s')
          | some (y, s3) => (y, (⟨s1.tmps, s3.heap, s3.ws⟩ : St)) = (x, s')
          | none => False) ∧ y = ())
        ?_ ?_ ?_ ?_ ?_ ?_ ?_ ?_ ?_)
      · rintro i W W' ⟨M1, s1, k1, k2, k3, k4, k5, k6⟩ t
        exact ⟨M1, s1, k1.turn t, k2, k3, k4, k5.turn hBw t, k6⟩
      · rintro c W W' ⟨e', k0, M1, k1, k2, k4, k5⟩ t
        exact ⟨e', k0, M1, k1.turn t, k2, k4, k5.turn hBw t⟩
      · rintro i a1 W W' ⟨M1, s1, y, s2, k1, k2, k3, k4, k5, k6, k7, k8⟩ t
        exact ⟨M1, s1, y, s2, k1.turn t, k2, k3, k4, k5, k6, k7.turn hBw t, k8⟩
      · rintro i W ⟨M1, s1, k1, k2, k3, k4, k5, k6⟩
        exact ⟨fun b arr hb => k1.stab b arr (k4.stab.c b arr hb), fun r ms hr => k1.mstab r ms (k4.stab.m r ms hr)⟩
      · exact ⟨M2, _, t2, t3, hF2, t1, .refl B w, by rw [List.drop_zero]; exact e⟩
      · -- the assignment
        rintro l i xv y W hxi hy ⟨M1, s1, k1, k2, k3, k4, k5, k6⟩
        have hdrop : xs.drop i = xv :: xs.drop (i + 1) := by
          obtain ⟨hlt, he⟩ := List.getElem?_eq_some_iff.1 hxi
          rw [List.drop_eq_getElem_cons hlt, he]
        rw [hdrop] at k6
        unfold rangeGo at k6
        have hy1 : VL M1 xv y := hy.mono (memS_ext k4.stab)
        obtain ⟨q1, q2⟩ := TR_round (ps := ps) k2 hA.size hy1
        cases h1 : absCode P cf sc n N n0 K as ⟨setAll N ps.toList xv s1.tmps, s1.heap, s1.ws⟩ with
        | none => simp [hf, roundR, h1] at k6
        | some r =>
          obtain ⟨y1, s2⟩ := r
          cases y1 with
          | normal =>
            refine wpIn_mono (absCode_flat hcf hd (ds := []) (ro := some l) as hpa M1 .normal ⟨setAll N ps.toList xv s1.tmps, s1.heap, s1.ws⟩ s2 _ W ⟨k1, q1, rfl, q2⟩ h1) ?_
            intro e2 a2 w2 h2
            obtain ⟨g1, g2, g3, M3, g4, g5, g6, g7⟩ := h2
            cases e2 <;> simp only [AX.is] at g1
            refine ⟨g7.mark, M3, s1, (), s2, g5, g6, g3, k2.mono g4, ?_, k4.trans g4.below, k5.trans g7, ?_, rfl⟩
            · have : FrC n0 H0 ⟨setAll N ps.toList xv s1.tmps, s1.heap, s1.ws⟩ := ⟨k3.1, k3.2⟩
              exact this.step (absCode_fr hfr hscf as _ _ _ this.1 h1)
            · have hfv : f xv s1 = match absCode P cf sc n N n0 K body s2 with
                  | some (.normal, s3) => some (.normal, tidy n0 K ⟨s1.tmps, s3.heap, s3.ws⟩)
                  | some (y, s3) => some (y, ⟨s1.tmps, s3.heap, s3.ws⟩)
                  | none => none := by
                rw [hf]; unfold roundR; simp only [h1]
                rfl
              rw [hfv] at k6
              cases h3 : absCode P cf sc n N n0 K body s2 with
              | none => rw [h3] at k6; cases k6
              | some r3 =>
                obtain ⟨y3, s3⟩ := r3
                rw [h3] at k6
                cases y3 with
                | normal => exact k6
                | exit j => exact Option.some.inj k6
                | goto j => exact Option.some.inj k6
                | ret => exact Option.some.inj k6
          | exit j => simp [hf, roundR, h1] at k6
          | goto j => simp [hf, roundR, h1] at k6
          | ret => simp [hf, roundR, h1] at k6
      · -- the body
        rintro l i a1 W hil ⟨M1, s1, y, s2, k1, k2, k3, k4, k5, k6, k7, k8, rfl⟩
        cases h3 : absCode P cf sc n N n0 K body s2 with
        | none => rw [h3] at k8; exact k8.elim
        | some r3 =>
          obtain ⟨y3, s3⟩ := r3
          rw [h3] at k8
          refine wpIn_mono (absCode_flat hcf hd (ds := a1.defers) (ro := some l) body hpb M1 y3 s2 s3 a1 W ⟨k1, k2, rfl, k3⟩ h3) ?_
          intro e2 a2 w2 h2
          obtain ⟨g1, g2, g3, M3, g4, g5, g6, g7⟩ := h2
          have hF3 : FrC n0 H0 ⟨s1.tmps, s3.heap, s3.ws⟩ := by
            have := k5.step (absCode_fr hfr hscf body _ _ _ k5.1 h3)
            exact ⟨this.1, this.2⟩
          cases y3 with
          | normal =>
            cases e2 <;> simp only [AX.is] at g1
            obtain ⟨M4, u1, u2, u3⟩ := tidy_ok (K := K) (s := ⟨s1.tmps, s3.heap, s3.ws⟩) h0 hn0 g5 hF3 (k4.mono g4)
            exact ⟨g7.mark, M4, _, u2, u3, hF3.step (tidy_fr (K := K) hF3.1), (k6.trans g4.below).trans u1, k7.trans g7, k8⟩
          | exit j =>
            cases e2 <;> simp only [AX.is] at g1
            subst g1
            obtain ⟨rfl, rfl⟩ := Prod.mk.inj k8
            exact ⟨g7.mark, _, ⟨rfl, rfl⟩, M3, g5, k4.mono g4, k6.trans g4.below, k7.trans g7⟩
          | goto j =>
            cases e2 <;> simp only [AX.is] at g1
            subst g1
            obtain ⟨rfl, rfl⟩ := Prod.mk.inj k8
            exact ⟨g7.mark, _, ⟨rfl, rfl⟩, M3, g5, k4.mono g4, k6.trans g4.below, k7.trans g7⟩
          | ret =>
            cases e2 <;> simp only [AX.is] at g1
            obtain ⟨rfl, rfl⟩ := Prod.mk.inj k8
            exact ⟨g7.mark, _, ⟨rfl, rfl⟩, M3, g5, k4.mono g4, k6.trans g4.below, k7.trans g7⟩
      · -- all came
        rintro D W hD ⟨M1, s1, k1, k2, k3, k4, k5, k6⟩ hdef
        rw [List.drop_length] at k6
        cases k6
        exact ⟨trivial, hA.defers.cons k5.mark k5.size hD hdef, hA.size, M1, k4, k1, k2, k5⟩
      · -- a round left
        rintro D c W hD ⟨e', k0, M1, k1, k2, k4, k5⟩ hdef
        have hm := hA.defers.cons k5.mark k5.size hD hdef
        cases c with
        | ret => obtain ⟨rfl, _⟩ := k0; exact wpIn_ret ⟨trivial, hm, hA.size, M1, k4, k1, k2, k5⟩
        | exit id => obtain ⟨rfl, _⟩ := k0; exact wpIn_exit ⟨rfl, hm, hA.size, M1, k4, k1, k2, k5⟩
        | goto l => obtain ⟨rfl, _⟩ := k0; exact wpIn_goto ⟨rfl, hm, hA.size, M1, k4, k1, k2, k5⟩
        | _ => exact k0.elim
    · cases e
  | exit id => intro M x s s' a w hA hF e; cases e; exact wp_exit ⟨rfl, hA.defers, hA.size, M, .refl _ M, hA.inv, hA.tr, .refl B w⟩
  | scope c ih =>
    intro M x s s' a w hA hF e
    refine wp_scope_in (inScope_of ?_)
    simp only [absCode] at e
    cases h1 : absCode P cf sc n N n0 K c s with
    | none => rw [h1] at e; cases e
    | some r =>
      obtain ⟨y, s1⟩ := r
      rw [h1] at e
      refine wp_mono (ih M y s s1 a w hA hF h1) ?_
      intro e2 a2 w2 h2
      have h3 := h2.1
      cases y with
      | normal => cases e; cases e2 <;> simp only [AX.is] at h3; exact h2
      | exit i => cases e; cases e2 <;> simp only [AX.is] at h3; exact h2
      | goto i =>
        cases e2 <;> simp only [AX.is] at h3
        subst h3
        simp only [Exit.boxed]
        simp only at e
        cases hf : findLabel c i with
        | none => rw [hf] at e; cases e; exact h2
        | some rest =>
          rw [hf] at e
          obtain ⟨_, h4, h5, M2, h6, h7, h8, h9⟩ := h2
          intro b k cs
          obtain ⟨e3, a3, w3, h10, h11⟩ := hsc M2 c rest x s1 s' a2 w2 ⟨h7, h8, h4, h5⟩ (fr c hF h1) e b k cs
          exact ⟨e3, a3, w3, h10.trans h6 h9, h11⟩
      | ret => cases e; cases e2 <;> simp only [AX.is] at h3; exact h2
  | label l => intro M x s s' a w hA hF e; cases e; exact wp_label ⟨trivial, hA.defers, hA.size, M, .refl _ M, hA.inv, hA.tr, .refl B w⟩
  | goto l => intro M x s s' a w hA hF e; cases e; exact wp_goto ⟨rfl, hA.defers, hA.size, M, .refl _ M, hA.inv, hA.tr, .refl B w⟩
  | ret => intro M x s s' a w hA hF e; cases e; exact wp_ret ⟨trivial, hA.defers, hA.size, M, .refl _ M, hA.inv, hA.tr, .refl B w⟩
  | refuse why => intro M x s s' a w hA hF e; simp [absCode] at e

theorem absScope_sound : ∀ m, ScOK P N n0 B lo H0 (absScope P cf n N n0 K m)
  | 0 => fun M c cur x s s' a w hA hF e => by cases e
  | m + 1 => fun M c cur x s s' a w hA hF e => by
    refine inScope_of ?_
    simp only [absScope] at e
    cases h1 : absCode P cf (absScope P cf n N n0 K m) n N n0 K cur s with
    | none => rw [h1] at e; cases e
    | some r =>
      obtain ⟨y, s1⟩ := r
      rw [h1] at e
      refine wp_mono (absCode_sound hcf hfr hd h0 hn0 hk (absScope_sound m) (absScope_fr hfr m) cur M y s s1 a w hA hF h1) ?_
      intro e2 a2 w2 h2
      have h3 := h2.1
      cases y with
      | normal => cases e; cases e2 <;> simp only [AX.is] at h3; exact h2
      | exit i => cases e; cases e2 <;> simp only [AX.is] at h3; exact h2
      | goto i =>
        cases e2 <;> simp only [AX.is] at h3
        subst h3
        simp only [Exit.boxed]
        simp only at e
        cases hf : findLabel c i with
        | none => rw [hf] at e; cases e; exact h2
        | some rest =>
          rw [hf] at e
          obtain ⟨_, h4, h5, M2, h6, h7, h8, h9⟩ := h2
          intro b k cs
          obtain ⟨e3, a3, w3, h10, h11⟩ := absScope_sound m M2 c rest x s1 s' a2 w2 ⟨h7, h8, h4, h5⟩ (hF.step (absCode_fr hfr (absScope_fr hfr m) cur s _ s1 hF.1 h1)) e b k cs
          exact ⟨e3, a3, w3, h10.trans h6 h9, h11⟩
      | ret => cases e; cases e2 <;> simp only [AX.is] at h3; exact h2
end
end Go.Proofs.YtkbdhjfjbkmkcaaGreat.Abs
