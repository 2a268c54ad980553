/- The abstract machine: operations one behind the other do what the machine says, in a frame or in a round of a loop over a function. -/
import Derived.Test.YtkbdhjfjbkmkcaaGreatJT13
import Derived.Scope
import Derived.OrdersIn
import Derived.RangeFuncRecord
set_option linter.unusedSimpArgs false
set_option linter.unusedVariables false
namespace Go.Proofs.YtkbdhjfjbkmkcaaGreat.Abs
open Go Go.RowKit

def CallR (B : Nat) (M : Mem) (w : World) (v : V) (H' : Heap) : Ending → World → Prop
  | .returned u, w' => ∃ M', Ext M M' ∧ Inv B M' H' w' ∧ VV M' v u ∧ Below B w w'
  | _, _ => False

def FO (ro : Option Nat) : Fence := { fn := fun _ => True, depth := none, alive := false, round := ro }

theorem FO_room (ro : Option Nat) (n : Nat) : (FO ro).room n := fun d hd => by simp [FO] at hd
abbrev wpR (ro : Option Nat) (P : Program) (c : Code) (Q : Exit → Act → World → Prop) (a : Act) (w : World) : Prop := c.wpIn (FO ro) 9 P Q a w

theorem wpR_none {P : Program} {c : Code} {Q : Exit → Act → World → Prop} {a : Act} {w : World} : wpR none P c Q a w ↔ c.wp P Q a w := wpIn_wide (n := 9)
theorem wpR_any {ro : Option Nat} {n m : Nat} {P : Program} {c : Code} {Q : Exit → Act → World → Prop} {a : Act} {w : World} (h : c.wpIn (FO ro) n P Q a w) : c.wpIn (FO ro) m P Q a w :=
  fun b k cs h1 h2 _ => h b k cs h1 h2 (FO_room _ _)
theorem callsIn_FO {ro : Option Nat} {n : Nat} {P : Program} {f : FuncId} {args : Array Value} {w : World} {R : Ending → World → Prop} : CallsIn (FO ro) n P f args w R ↔ Calls P f args w R :=
  callsIn_wide (n := n)

def Marks (lo : Nat) (w : World) (ds : List Deferred) : Prop :=
  lo ≤ w.heap.size ∧ ∃ Ds : List Nat, ds = Ds.map (fun D => { target := .collected D, args := #[] }) ∧ Ds.Nodup ∧ ∀ D, D ∈ Ds → lo ≤ D ∧ w.heap[D]? = some (.deferred (some []))

theorem Marks.nil {lo : Nat} {w : World} (h : lo ≤ w.heap.size) : Marks lo w [] := ⟨h, [], rfl, List.nodup_nil, fun _ h => by cases h⟩
theorem Marks.step {lo B : Nat} {w w' : World} {ds : List Deferred} (h : Marks lo w ds) (hb : Below B w w') : Marks lo w' ds := by
  obtain ⟨h0, Ds, h1, h2, h3⟩ := h
  exact ⟨Nat.le_trans h0 hb.size, Ds, h1, h2, fun D hD => ⟨(h3 D hD).1, hb.mark _ _ (h3 D hD).2 rfl⟩⟩

def CFOK (P : Program) (cf : CF) : Prop :=
  ∀ (B : Nat) (M : Mem) (H : Heap) (w : World) (f : FuncId) (args : List V) (v : V) (H' : Heap) (ws : List Nat) (vs : Array Value),
    Inv B M H w → VL M args vs → cf f args H = some (v, H', ws) → Calls P f vs w (CallR B M w v H')

def AX.is : AX → Exit → Prop
  | .normal, .normal => True
  | .exit i, .exit j => i = j
  | .goto i, .goto j => i = j
  | .ret, .ret => True
  | _, _ => False

def CPost (B : Nat) (ds : List Deferred) (M : Mem) (w : World) (N : Nat) (x : AX) (s : St) (e : Exit) (a' : Act) (w' : World) : Prop :=
  x.is e ∧ a'.defers = ds ∧ a'.tmps.size = N ∧ ∃ M', Ext M M' ∧ Inv B M' s.heap w' ∧ TR M' s.tmps a'.tmps ∧ Below B w w'

structure At (B : Nat) (ds : List Deferred) (M : Mem) (N : Nat) (s : St) (a : Act) (w : World) : Prop where
  inv : Inv B M s.heap w
  tr : TR M s.tmps a.tmps
  defers : a.defers = ds
  size : a.tmps.size = N

theorem CPost.trans {B N : Nat} {ds : List Deferred} {M M1 : Mem} {w w1 : World} {x : AX} {s : St} {e : Exit} {a' : Act} {w' : World} (hE : Ext M M1) (hB : Below B w w1) (h : CPost B ds M1 w1 N x s e a' w') : CPost B ds M w N x s e a' w' := by
  obtain ⟨h1, h2, h3, M', h4, h5, h6, h7⟩ := h
  exact ⟨h1, h2, h3, M', hE.trans h4, h5, h6, hB.trans h7⟩

theorem tget_cons (p : Nat × V) (r : Tmps) (i : Nat) : tget (p :: r) i = if p.1 = i then p.2 else tget r i := by
  simp only [tget]
  by_cases h : p.1 = i
  · subst h; simp
  · have : Nat.beq p.1 i = false := by
      cases hb : Nat.beq p.1 i with
      | false => rfl
      | true => exact (h (Nat.eq_of_beq_eq_true hb)).elim
    rw [this]; simp [h]

theorem TR_put {M : Mem} {N : Nat} {t : Tmps} {a : Act} (h : TR M t a.tmps) (hN : a.tmps.size = N) (dst : Option Nat) {v : V} {u : Value} (hv : VV M v u) : TR M (setD N t dst v) (a.put dst u).tmps ∧ (a.put dst u).tmps.size = N ∧ (a.put dst u).defers = a.defers := by
  cases dst with
  | none => exact ⟨h, hN, rfl⟩
  | some d =>
    refine ⟨fun i => ?_, by simp [Act.put, hN], rfl⟩
    simp only [setD, Act.put]
    split
    · rename_i hd
      rw [tget_cons]
      by_cases hi : d = i
      · subst hi
        simp only [if_true]
        simpa [Array.getD, hN, hd] using hv
      · simp only [hi, if_false]
        have := h i
        have e1 : (a.tmps.setIfInBounds d u).getD i undef = a.tmps.getD i undef := by
          rw [← getD_toList, ← getD_toList]
          simp [List.getD, List.getElem?_set, hi]
        rw [e1]; exact this
    · rename_i hd
      have : a.tmps.setIfInBounds d u = a.tmps := by
        apply Array.ext
        · simp
        · intro j h1 h2
          rw [Array.getElem_setIfInBounds]
          rw [if_neg (by simp at h1; omega)]
      rw [this]; exact h i

theorem wanted_ok {M : Mem} {t : Tmps} {a : Act} (h : TR M t a.tmps) {ops : Array Oper} {o : Oper} {b : Bool} (e : wantedA ops t o = some b) : Region.wanted o (yielded ops a.tmps) = b := by
  unfold wantedA at e
  unfold Region.wanted
  split at e
  · rename_i hg
    rw [hg]; cases e; rfl
  · rename_i j want hg
    rw [hg]
    simp only
    split at e
    · rename_i d hd
      have hv := h d
      have hy : yielded ops a.tmps j = match a.tmps[d]? with | some (.bool b) => some b | _ => none := by
        simp only [yielded, hd, Option.bind_some]
        rfl
      rw [hy]
      split at e
      · rename_i b' hb
        rw [hb] at hv
        have h1 := hv.one_inv.bool_inv
        have h2 : a.tmps[d]? = some (.bool b') := by
          by_cases hlt : d < a.tmps.size
          · simpa [Array.getD, hlt] using h1
          · simp [Array.getD, hlt, undef] at h1
        rw [h2]
        cases e
        cases b' <;> cases want <;> rfl
      · rename_i vs hb
        rw [hb] at hv
        cases e
        obtain ⟨arr, h1, _⟩ := hv.tup_inv
        have h2 : (match a.tmps[d]? with | some (.bool b) => some b | _ => none) = (none : Option Bool) := by
          by_cases hlt : d < a.tmps.size
          · have : a.tmps[d]? = some (.tuple arr) := by simpa [Array.getD, hlt] using h1
            rw [this]
          · simp [hlt]
        rw [h2]; cases want <;> rfl
      · cases e
    · cases e

section
variable {P : Program} {cf : CF} (hcf : CFOK P cf) {B : Nat} {ds : List Deferred} {ro : Option Nat}

def Keep (l : List Oper) (a a' : Act) : Prop := (∀ d, (∀ o, o ∈ l → o.dst ≠ some d) → a'.tmps.getD d undef = a.tmps.getD d undef) ∧ a'.defers = a.defers

theorem put_keep {a : Act} {dst : Option Nat} {u : Value} {d : Nat} (h : dst ≠ some d) : (a.put dst u).tmps.getD d undef = a.tmps.getD d undef := by
  cases dst with
  | none => rfl
  | some i =>
    have hi : i ≠ d := fun e => h (by rw [e])
    simp only [Act.put]
    rw [← getD_toList, ← getD_toList]
    simp [List.getD, List.getElem?_set, hi]

theorem Keep.cons {o : Oper} {l : List Oper} {a a' : Act} {u : Value} (h : Keep l (a.put o.dst u) a') : Keep (o :: l) a a' := by
  refine ⟨fun d hd => (h.1 d fun x hx => hd x (List.mem_cons_of_mem _ hx)).trans (put_keep (hd o (List.mem_cons_self ..))), ?_⟩
  rw [h.2]; cases o.dst <;> rfl

theorem absOp_defer {slot : Option Nat} {t : Tmps} {h : Heap} {o : Oper} {r : V × Heap × List Nat} (e : absOp P cf slot t h o = some r) : ∀ c, o.op ≠ .defer c := by
  intro c hc
  obtain ⟨dst, op, ty, pos, after, guard⟩ := o
  subst hc
  simp [absOp] at e

include hcf
theorem oper_wp {M : Mem} {N : Nat} {s : St} {a : Act} {w : World} (hA : At B ds M N s a w) {slot : Option Nat} {o : Oper} {v : V} {H' : Heap} {ws : List Nat}
    (e : absOp P cf slot s.tmps s.heap o = some (v, H', ws)) {next : Act → World → Prop} {Q : Exit → Act → World → Prop}
    (hn : ∀ M' u w', Ext M M' → Inv B M' H' w' → VV M' v u → Below B w w' → next (a.put o.dst u) w') : o.wpIn (FO ro) 9 P a w next Q := by
  unfold Oper.wpIn
  refine ⟨fun _ _ => trivial, ?_⟩
  rw [Oper.semAt_eq _ _ _ (absOp_defer e)]
  rcases op_sound hA.inv hA.tr e with ⟨M', w', u, h1, h2, h3, h4, h5 | ⟨h5, rfl⟩⟩ | ⟨g, args, vs, h1, h2, h3, h4⟩
  · rw [h5]; exact hn M' u w' h1 h2 h3 h4
  · rw [h5]; exact hn M' undef w' h1 h2 h3 h4
  · rw [h4, Oper.uponIn_enter]
    refine ⟨fun h => by simp [FO] at h, callsIn_FO.2 ?_⟩
    refine (hcf B M s.heap w g args v H' ws vs hA.inv h3 h2).mono ?_
    intro e' w' hr
    cases e' with
    | returned u => obtain ⟨M', k1, k2, k3, k4⟩ := hr; exact hn M' u w' k1 k2 k3 k4
    | panicked _ => exact hr.elim
    | outgrown => exact hr.elim

theorem absOps_sound {M0 : Mem} {N : Nat} {w0 : World} {ops : Array Oper} {Q : Exit → Act → World → Prop} : ∀ (l : List Oper) (k : Nat) (M : Mem) (s s' : St) (a : Act) (w : World), (∀ j, l[j]? = ops[k + j]?) → At B ds M N s a w →
    Ext M0 M → Below B w0 w → absOps P cf N ops l s = some s' → (∀ a' w', CPost B ds M0 w0 N .normal s' .normal a' w' → Keep l a a' → Q .normal a' w') → wpOpsIn (FO ro) 9 P ops Q (List.range' k l.length) a w
  | [], k, M, s, s', a, w, hl, hA, hE, hB, e, hQ => by
    cases e
    exact hQ a w ⟨trivial, hA.defers, hA.size, M, hE, hA.inv, hA.tr, hB⟩ ⟨fun _ _ => rfl, rfl⟩
  | o :: l, k, M, s, s', a, w, hl, hA, hE, hB, e, hQ => by
    have ho : ops[k]? = some o := by have := hl 0; simpa using this.symm
    have hl' : ∀ j, l[j]? = ops[k + 1 + j]? := by
      intro j
      have := hl (j + 1)
      rw [show k + (j + 1) = k + 1 + j by omega] at this
      simpa using this
    rw [List.length_cons, List.range'_succ]
    simp only [wpOpsIn, ho]
    unfold absOps at e
    split at e
    · cases e
    · rename_i hw
      rw [wanted_ok hA.tr hw]
      simp only [Bool.false_eq_true, if_false]
      obtain ⟨h1, h2, h3⟩ := TR_put hA.tr hA.size o.dst (v := .tup []) (u := undef) (.tup rfl (fun i hi => by simp at hi))
      exact ⟨fun _ _ => trivial, absOps_sound l (k + 1) M { s with tmps := setD N s.tmps o.dst (.tup []) } s' _ w hl' ⟨hA.inv, h1, by rw [h3]; exact hA.defers, h2⟩ hE hB e fun a' w' h k => hQ a' w' h k.cons⟩
    · rename_i hw
      rw [wanted_ok hA.tr hw]
      simp only [if_true]
      split at e
      · cases e
      · rename_i v H' ws hop
        refine oper_wp hcf hA hop ?_
        intro M' u w' k1 k2 k3 k4
        obtain ⟨h1, h2, h3⟩ := TR_put (hA.tr.mono k1) hA.size o.dst k3
        exact absOps_sound l (k + 1) M' _ s' _ w' hl' ⟨k2, h1, by rw [h3]; exact hA.defers, h2⟩ (hE.trans k1) (hB.trans k4) e fun a' w' h k => hQ a' w' h k.cons
end

theorem wpR_loop_n {ro : Option Nat} {P : Program} {Q : Exit → Act → World → Prop} {c : Code} (J : Nat → Act → World → Prop)
    (round : ∀ n a w, J n a w → wpR ro P c (Exit.then (fun a' w' => ∃ m, m < n ∧ J m a' w') Q) a w) {n : Nat} {a : Act} {w : World} (h₀ : J n a w) : wpR ro P (Code.loop c) Q a w := by
  intro b k cs hro hb hr
  have key : ∀ n a w, J n a w → ∃ e a' w', Q e a' w' ∧ ArrivesIn (Machine.fenced P (FO ro)) P (lone (b.atR a (.code c :: .inLoop c :: k)) cs w) b k cs e a' w' := by
    intro n
    induction n using Nat.strongRecOn with
    | _ n ih =>
      intro a w hI
      obtain ⟨e, a₁, w₁, hq, harr⟩ := round n a w hI b (.inLoop c :: k) cs hro hb hr
      cases e with
      | normal =>
        obtain ⟨m, hlt, hI₁⟩ := hq
        obtain ⟨e₂, a₂, w₂, hq₂, harr₂⟩ := ih m hlt a₁ w₁ hI₁
        exact ⟨e₂, a₂, w₂, hq₂, .of_steps (StepsIn.trans harr (.one (fenced_calm hb hr rfl) stepR_inLoop)) harr₂⟩
      | exit id => exact ⟨_, a₁, w₁, hq, .pass (x := .inLoop c) rfl (fun _ _ => .inl (by simp)) harr⟩
      | goto l => exact ⟨_, a₁, w₁, hq, .pass (x := .inLoop c) rfl (fun _ _ => .inl (by simp)) harr⟩
      | ret => exact ⟨_, a₁, w₁, hq, .pass (x := .inLoop c) rfl (fun _ _ => .inl (by simp)) harr⟩
      | panic ch => exact ⟨_, a₁, w₁, hq, .pass (x := .inLoop c) rfl (fun _ _ => .inl (by simp)) harr⟩
      | outgrown => exact ⟨_, a₁, w₁, hq, .pass (x := .inLoop c) rfl (fun _ _ => .inl (by simp)) harr⟩
  obtain ⟨e, a', w', hq, harr⟩ := key _ a w h₀
  exact ⟨e, a', w', hq, .of_steps (.one (fenced_calm hb hr rfl) stepR_loop) harr⟩

theorem wp_loop_n {P : Program} {Q : Exit → Act → World → Prop} {c : Code} (J : Nat → Act → World → Prop)
    (round : ∀ n a w, J n a w → c.wp P (Exit.then (fun a' w' => ∃ m, m < n ∧ J m a' w') Q) a w) {n : Nat} {a : Act} {w : World} (h₀ : J n a w) : (Code.loop c).wp P Q a w :=
  wpR_none.1 (wpR_loop_n J (fun n a w h => wpR_none.2 (round n a w h)) h₀)
end Go.Proofs.YtkbdhjfjbkmkcaaGreat.Abs
