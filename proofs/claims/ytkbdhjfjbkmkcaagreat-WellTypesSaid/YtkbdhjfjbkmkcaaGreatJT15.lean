/- The abstract machine: loops over functions: the law; and what slices.Backward makes. -/
import Derived.Test.YtkbdhjfjbkmkcaaGreatJT14
import Derived.RangeFuncSeq
set_option linter.unusedSimpArgs false
set_option linter.unusedVariables false
namespace Go.Proofs.YtkbdhjfjbkmkcaaGreat.Abs
open Go Go.RowKit

structure StabIn (S : Stab) (W : World) : Prop where
  c : ∀ b arr, S b = some arr → ∃ e fr, W.heap[b]? = some (.cells arr e fr)
  m : ∀ r ms, S.m r = some ms → ∃ ck, W.heap[r]? = some (.map ms ck)
def memS (S : Stab) : Mem := ⟨S, fun _ _ => none, fun _ => none, 0⟩

abbrev S0 : Stab := ⟨fun _ => none, fun _ => none⟩
theorem memS_inv {S : Stab} {W : World} (h : StabIn S W) : Inv W.heap.size (memS S) [] W :=
  ⟨Nat.le_refl _, h.c, nofun, nofun, fun id _ _ h => by simp at h, fun id _ _ h => by simp at h, fun id _ _ _ _ _ _ _ h => by simp at h, nofun, Nat.le_refl _, h.m, nofun⟩

theorem memS_ext {S : Stab} {M : Mem} (h : SLe S M.stab) : Ext (memS S) M :=
  ⟨h, fun id sz hb h => by simp [memS] at h, fun id r h => by simp [memS] at h, Nat.zero_le _⟩

theorem StabIn.after {S : Stab} {W W' : World} (h : StabIn S W) (hb : Below W.heap.size W W') : StabIn S W' := ⟨fun b arr hs => by
  obtain ⟨e, fr, k⟩ := h.c b arr hs
  exact ⟨e, fr, by rw [hb.block b (Array.getElem?_eq_some_iff.1 k).1]; exact k⟩, fun r ms hs => by
  obtain ⟨ck, k⟩ := h.m r ms hs
  exact ⟨ck, by rw [hb.block r (Array.getElem?_eq_some_iff.1 k).1]; exact k⟩⟩

def MK (W W' : World) : Prop := ∀ (k : Nat) (o : Obj), W.heap[k]? = some o → isMark o = true → W'.heap[k]? = some o
theorem MK.trans {A B C : World} (h : MK A B) (k : MK B C) : MK A C := fun i o hi ho => k i o (h i o hi ho) ho
theorem MK.refl (W : World) : MK W W := fun _ _ h _ => h

structure Turn (n : Nat) (W W' : World) : Prop where
  os : W'.os = W.os
  tape : W'.tape = W.tape
  output : W'.output = W.output
  size : W.heap.size ≤ W'.heap.size
  same : ∀ (k : Nat) (o : Obj), W.heap[k]? = some o → (k < n ∨ isMark o = false) → W'.heap[k]? = some o

theorem Turn.of_below {n : Nat} {W W' : World} (h : Below W.heap.size W W') : Turn n W W' :=
  ⟨h.os, h.tape, h.output, h.size, fun k o hk _ => by rw [h.block k (Array.getElem?_eq_some_iff.1 hk).1]; exact hk⟩
theorem Turn.alloc (n : Nat) (W : World) (o : Obj) : Turn n W (W.alloc o) :=
  ⟨rfl, rfl, rfl, by simp, fun k o' hk _ => by rw [Go.RowKit.Below.heap_alloc _ _ _ (Array.getElem?_eq_some_iff.1 hk).1]; exact hk⟩
theorem Turn.put {n r : Nat} {W : World} {o : Obj} (o' : Obj) (hn : n ≤ r) (h : W.heap[r]? = some o) (hm : isMark o = true) : Turn n W (W.putObj r o') :=
  ⟨rfl, rfl, rfl, by simp, fun k o'' hk hc => by
    by_cases e : k = r
    · subst e
      rcases hc with hc | hc
      · omega
      · rw [h] at hk; cases hk; rw [hm] at hc; cases hc
    · exact (World.putObj_heap_other e).trans hk⟩
theorem Turn.trans {n : Nat} {A B C : World} (h : Turn n A B) (k : Turn n B C) : Turn n A C :=
  ⟨k.os.trans h.os, k.tape.trans h.tape, k.output.trans h.output, Nat.le_trans h.size k.size, fun i o hi hc => k.same i o (h.same i o hi hc) hc⟩

theorem Inv.turn {B n : Nat} {M : Mem} {H : Heap} {W W' : World} (hI : Inv B M H W) (h : Turn n W W') : Inv B M H W' := by
  obtain ⟨h1, h2, h3, h4, h5, h6, h7, h8, h9, h10, h11⟩ := hI
  refine ⟨Nat.le_trans h1 h.size, fun b arr hs => ?_, h3, h4, fun id esz elems hr => ?_, fun id ck es hr => ?_, h7, h8, h9, fun r ms hr => (h10 r ms hr).imp fun ck g => h.same _ _ g (.inr rfl), h11⟩
  · obtain ⟨e, fr, k⟩ := h2 b arr hs; exact ⟨e, fr, h.same _ _ k (.inr rfl)⟩
  · rcases h5 id esz elems hr with k | ⟨c, cap, arr, e, k1, k2, k3, k4⟩
    · exact .inl k
    · exact .inr ⟨c, cap, arr, e, k1, k2, h.same _ _ k3 (.inr rfl), k4⟩
  · obtain ⟨r, ms, k1, k2, k3, k4⟩ := h6 id ck es hr
    exact ⟨r, ms, k1, k2, h.same _ _ k3 (.inr rfl), k4⟩

theorem Below.turn {B : Nat} {w W W' : World} (h : Below B w W) (hB : B ≤ w.heap.size) (t : Turn w.heap.size W W') : Below B w W' := by
  have old : ∀ k, k < w.heap.size → ∀ o, W.heap[k]? = some o → W'.heap[k]? = some o := fun k hk o ho => t.same k o ho (.inl hk)
  refine ⟨⟨t.os.trans h.os, t.tape.trans h.tape, t.output.trans h.output, Nat.le_trans h.size t.size, fun k hk => ?_⟩, fun k o hk ho => old k (Array.getElem?_eq_some_iff.1 hk).1 o (h.mark k o hk ho)⟩
  rw [← h.block k hk]
  have hlt : k < W.heap.size := by have := h.size; omega
  rw [Array.getElem?_eq_getElem hlt]
  exact old k (by omega) _ (Array.getElem?_eq_getElem hlt)

def ItStops (P : Program) (gf : FuncId) (lb : Array Value) (S : Stab) (xs : List (List V)) : Prop :=
  ∀ (l : Nat) (J : Nat → World → Prop) (Jx : World → Prop) (W : World), StabIn S W →
    (∀ i A B, J i A → Below A.heap.size A B → J i B) → (∀ A B, Jx A → Below A.heap.size A B → Jx B) →
    (∀ i x y A, xs[i]? = some x → VL (memS S) x y → J i A → StabIn S A → YieldAt (FO none) 9 P l y A fun e A' =>
      (e = .returned (.bool true) ∧ J (i + 1) A' ∧ StabIn S A') ∨ (e = .returned (.bool false) ∧ Jx A')) →
    J 0 W →
    Calls P gf (#[.func (.yield l) #[] #[]] ++ lb) W fun e W' => (∃ v, e = .returned v) ∧ (J xs.length W' ∨ Jx W')

def roundQ (I : World → Prop) (Ix : Code → World → Prop) (W : World) : Exit → Act → World → Prop
  | .normal, _, W' => MK W W' ∧ I W'
  | .ret, _, W' => MK W W' ∧ Ix .ret W'
  | .exit id, _, W' => MK W W' ∧ Ix (.exit id) W'
  | .goto t, _, W' => MK W W' ∧ Ix (.goto t) W'
  | .panic _, _, _ => False
  | .outgrown, _, _ => False

theorem wpR_rangeFunc {P : Program} {g : Operand} {ps : Array Tmp} {assign body : Code} {Q : Exit → Act → World → Prop} {a : Act} {w : World}
    {gf : Nat} {lb : Array Value} (hg : a.eval g = .func (.func gf) #[] lb) (eg : ∀ args w, (callFunc gf args).run P w = .ok (.enter gf args) w)
    {S : Stab} {xs : List (List V)} (hit : ItStops P gf lb S xs) (hps : ∀ x, x ∈ xs → x.length = ps.size)
    (I : Nat → World → Prop) (Ix : Code → World → Prop) (A : Nat → Act → World → Prop) (hI : ∀ i W W', I i W → Turn w.heap.size W W' → I i W') (hIx : ∀ c W W', Ix c W → Turn w.heap.size W W' → Ix c W')
    (hA : ∀ i a' W W', A i a' W → Turn w.heap.size W W' → A i a' W') (hIS : ∀ i W, I i W → StabIn S W) (h0 : I 0 w)
    (hassign : ∀ (l i : Nat) (x : List V) (y : Array Value) (W : World), xs[i]? = some x → VL (memS S) x y → I i W →
      wpR (some l) P assign (Exit.then (fun a₁ w₁ => MK W w₁ ∧ A i a₁ w₁) (fun _ _ _ => False)) { tmps := (ps.zip y).foldl (fun t (p, v) => t.setIfInBounds p v) a.tmps, defers := [] } W)
    (hbody : ∀ (l i : Nat) (a₁ : Act) (W : World), i < xs.length → A i a₁ W → wpR (some l) P body (roundQ (I (i + 1)) Ix W) a₁ W)
    (hdone : ∀ (D : Nat) (W : World), w.heap.size ≤ D → I xs.length W → W.heap[D]? = some (.deferred (some [])) → Q .normal { a with defers := { target := .collected D, args := #[] } :: a.defers } W)
    (hstop : ∀ (D : Nat) (c : Code) (W : World), w.heap.size ≤ D → Ix c W → W.heap[D]? = some (.deferred (some [])) → wpR none P c Q { a with defers := { target := .collected D, args := #[] } :: a.defers } W) :
    wpR none P (Code.rangeFunc g ps assign body) Q a w := by
  refine wpIn_rangeFunc ?_
  intro fn hfn
  rw [show (FO none).round = none from rfl]
  obtain ⟨rec, hrec⟩ : ∃ rec : LoopState → Option Code → Loop, rec = fun st pe => { state := st, pending := pe, fn, tmps := a.tmps, params := ps, assign, body, defers := w.heap.size } := ⟨_, rfl⟩
  obtain ⟨W1, hW1⟩ : ∃ W1, (w.alloc (.deferred (some []))).alloc (.loop (rec .ready none)) = W1 := ⟨_, rfl⟩
  have hL1 : W1.heap[w.heap.size + 1]? = some (.loop (rec .ready none)) := by
    rw [← hW1]; have := World.alloc_heap_new (w.alloc (.deferred (some []))) (.loop (rec .ready none)); rwa [World.size_alloc] at this
  have hK1 : W1.heap[w.heap.size]? = some (.deferred (some [])) := by
    rw [← hW1]; exact (Go.RowKit.Below.heap_alloc _ _ _ (by simp)).trans (World.alloc_heap_new w _)
  have hI1 : I 0 W1 := by rw [← hW1]; exact hI _ _ _ (hI _ _ _ h0 (Turn.alloc _ _ _)) (Turn.alloc _ _ _)
  refine ⟨w.heap.size + 1, [{ target := .collected w.heap.size, args := #[] }], W1, { target := .fn (.func gf) lb, args := #[.func (.yield (w.heap.size + 1)) #[] #[]] }, W1, gf,
    #[.func (.yield (w.heap.size + 1)) #[] #[]] ++ lb, W1, ?_, ?_, ?_, ?_, fun h => by simp [FO] at h, ?_⟩
  · rw [← hW1, hrec]; exact run_enterLoop_outer _ _ _ _ _
  · simp only [resolve, hg]
    simp [go_sem]
  · intro f' hf'; trivial
  · simp [invoke, go_sem, eg]
  · refine callsIn_FO.2 ((hit (w.heap.size + 1)
      (fun i W => I i W ∧ W.heap[w.heap.size + 1]? = some (.loop (rec .ready none)) ∧ W.heap[w.heap.size]? = some (.deferred (some [])))
      (fun W => ∃ c, Ix c W ∧ W.heap[w.heap.size + 1]? = some (.loop (rec .done (some c))) ∧ W.heap[w.heap.size]? = some (.deferred (some [])))
      W1 (hIS _ _ hI1)
      (fun i A B h hb => ⟨hI _ _ _ h.1 (.of_below hb), hb.mark _ _ h.2.1 rfl, hb.mark _ _ h.2.2 rfl⟩)
      (fun A B h hb => by obtain ⟨c, h1, h2, h3⟩ := h; exact ⟨c, hIx _ _ _ h1 (.of_below hb), hb.mark _ _ h2 rfl, hb.mark _ _ h3 rfl⟩)
      ?_ ⟨hI1, hL1, hK1⟩).mono ?_)
    · -- one round
      rintro i x y W hx hy ⟨hi, hl, hk⟩ hS
      have hil : i < xs.length := (List.getElem?_eq_some_iff.1 hx).1
      have hxm : x ∈ xs := List.mem_of_getElem? hx
      have hyield := run_yield (P := P) (args := y) hl (by rw [hrec]; exact hy.1.trans (hps x hxm))
      rw [hrec] at hyield
      refine ⟨fn, _, assign, body, hyield, roundIn_of_wpIn (F := FO none) trivial (wpIn_mono (hassign (w.heap.size + 1) i x y W hx hy hi) ?_)⟩
      intro e a₁ W2 hp
      cases e with
      | normal =>
        obtain ⟨hmk, hA1⟩ := hp
        have hl2 : W2.heap[w.heap.size + 1]? = some (.loop (rec .ready none)) := hmk _ _ hl rfl
        have hk2 : W2.heap[w.heap.size]? = some (.deferred (some [])) := hmk _ _ hk rfl
        have hlt : w.heap.size + 1 < W2.heap.size := (Array.getElem?_eq_some_iff.1 hl2).1
        refine ⟨_, run_beginRound hl2 (by rw [hrec]), ?_⟩
        have hl3 : (W2.putObj (w.heap.size + 1) (.loop { rec .ready none with state := .busy })).heap[w.heap.size + 1]? = some (.loop { rec .ready none with state := .busy }) := World.putObj_heap_same hlt
        have hk3 : (W2.putObj (w.heap.size + 1) (.loop { rec .ready none with state := .busy })).heap[w.heap.size]? = some (.deferred (some [])) := (World.putObj_heap_other (by omega)).trans hk2
        refine wpIn_mono (hbody (w.heap.size + 1) i a₁ _ hil (hA _ _ _ _ hA1 (Turn.put _ (by omega) hl2 rfl))) ?_
        have fin : ∀ (jump : Option Code) (W3 : World), MK (W2.putObj (w.heap.size + 1) (.loop { rec .ready none with state := .busy })) W3 →
            (Instr.endRound (w.heap.size + 1) jump).run P W3 = .ok (.bool jump.isNone) (W3.putObj (w.heap.size + 1) (.loop (rec (if jump.isNone then .ready else .done) jump))) ∧
            W3.heap[w.heap.size + 1]? = some (.loop { rec .ready none with state := .busy }) ∧
            (W3.putObj (w.heap.size + 1) (.loop (rec (if jump.isNone then .ready else .done) jump))).heap[w.heap.size + 1]? = some (.loop (rec (if jump.isNone then .ready else .done) jump)) ∧
            (W3.putObj (w.heap.size + 1) (.loop (rec (if jump.isNone then .ready else .done) jump))).heap[w.heap.size]? = some (.deferred (some [])) := fun jump W3 hk4 => by
          have hl4 := hk4 _ _ hl3 rfl
          have := run_endRound (P := P) jump hl4
          rw [hrec] at this ⊢
          exact ⟨this, by rw [hrec] at hl4; exact hl4, World.putObj_heap_same (Array.getElem?_eq_some_iff.1 hl4).1, (World.putObj_heap_other (by omega)).trans (hk4 _ _ hk3 rfl)⟩
        rintro e a3 W3 hp
        cases e with
        | normal =>
          obtain ⟨hk4, hi4⟩ := hp
          obtain ⟨hr, hl5, hl6, hk6⟩ := fin none W3 hk4
          have h7 := hI _ _ _ hi4 (Turn.put (.loop (rec .ready none)) (by omega) hl5 rfl)
          exact ⟨_, _, hr, .inl ⟨rfl, ⟨h7, hl6, hk6⟩, hIS _ _ h7⟩⟩
        | ret =>
          obtain ⟨hk4, hi4⟩ := hp
          obtain ⟨hr, hl5, hl6, hk6⟩ := fin (some .ret) W3 hk4
          exact ⟨_, _, hr, .inr ⟨rfl, .ret, hIx _ _ _ hi4 (Turn.put _ (by omega) hl5 rfl), hl6, hk6⟩⟩
        | exit id =>
          obtain ⟨hk4, hi4⟩ := hp
          obtain ⟨hr, hl5, hl6, hk6⟩ := fin (some (.exit id)) W3 hk4
          exact ⟨_, _, hr, .inr ⟨rfl, .exit id, hIx _ _ _ hi4 (Turn.put _ (by omega) hl5 rfl), hl6, hk6⟩⟩
        | goto t =>
          obtain ⟨hk4, hi4⟩ := hp
          obtain ⟨hr, hl5, hl6, hk6⟩ := fin (some (.goto t)) W3 hk4
          exact ⟨_, _, hr, .inr ⟨rfl, .goto t, hIx _ _ _ hi4 (Turn.put _ (by omega) hl5 rfl), hl6, hk6⟩⟩
        | panic ch => exact hp.elim
        | outgrown => exact hp.elim
      | exit id => exact hp.elim
      | goto t => exact hp.elim
      | ret => exact hp.elim
      | panic ch => exact hp.elim
      | outgrown => exact hp.elim
    · -- behind the iterator
      rintro e W2 ⟨⟨v, rfl⟩, (⟨hi, hl, hk⟩ | ⟨c, hi, hl, hk⟩)⟩
      · exact ⟨none, _, by have := run_endLoop (P := P) hl (by rw [hrec]; simp); rw [hrec] at this; exact this, hdone _ _ (Nat.le_refl _) (hI _ _ _ hi (Turn.put _ (by omega) hl rfl)) ((World.putObj_heap_other (by omega)).trans hk)⟩
      · exact ⟨some c, _, by have := run_endLoop (P := P) hl (by rw [hrec]; simp); rw [hrec] at this; exact this, hstop _ c _ (Nat.le_refl _) (hIx _ _ _ hi (Turn.put _ (by omega) hl rfl)) ((World.putObj_heap_other (by omega)).trans hk)⟩
end Go.Proofs.YtkbdhjfjbkmkcaaGreat.Abs
