/- The abstract machine: objects that are not looked at may be there or not. -/
import Derived.Test.YtkbdhjfjbkmkcaaGreatJT17
set_option linter.unusedSimpArgs false
set_option linter.unusedVariables false
namespace Go.Proofs.YtkbdhjfjbkmkcaaGreat.Abs
open Go Go.RowKit

def Sub (n0 : Nat) (h H : Heap) : Prop := h.length = H.length ∧ ∀ id, (n0 ≤ id → h[id]? = H[id]?) ∧ (h[id]? = some none ∨ h[id]? = H[id]?)

theorem Sub.refl (n0 : Nat) (h : Heap) : Sub n0 h h := ⟨rfl, fun id => ⟨fun _ => rfl, .inr rfl⟩⟩
theorem Sub.alive {n0 : Nat} {h H : Heap} (s : Sub n0 h H) {id : Nat} {o : AO} (e : h[id]? = some (some o)) : H[id]? = some (some o) := by
  rcases (s.2 id).2 with h1 | h1
  · rw [h1] at e; cases e
  · rw [← h1]; exact e

theorem Sub.set {n0 : Nat} {h H : Heap} (s : Sub n0 h H) (id : Nat) (o : Option AO) : Sub n0 (h.set id o) (H.set id o) := by
  refine ⟨by simp [s.1], fun k => ?_⟩
  by_cases hk : k = id
  · subst hk
    have : (h.set k o)[k]? = (H.set k o)[k]? := by simp [List.getElem?_set, s.1]
    exact ⟨fun _ => this, .inr this⟩
  · rw [List.getElem?_set_ne (Ne.symm hk), List.getElem?_set_ne (Ne.symm hk)]
    exact s.2 k

theorem Sub.push {n0 : Nat} {h H : Heap} (s : Sub n0 h H) (t : Heap) : Sub n0 (h ++ t) (H ++ t) := by
  refine ⟨by simp [s.1], fun k => ?_⟩
  rcases Nat.lt_or_ge k h.length with hl | hl
  · rw [List.getElem?_append_left hl, List.getElem?_append_left (by rw [← s.1]; exact hl)]
    exact s.2 k
  · rw [List.getElem?_append_right hl, List.getElem?_append_right (by rw [← s.1]; exact hl), s.1]
    exact ⟨fun _ => rfl, .inr rfl⟩

def SubR (n0 : Nat) (ws : List Nat) (h' H' : Heap) : Prop := Sub n0 h' H' ∧ ∀ id, id ∈ ws → h'[id]? = H'[id]?

def CFMono (cf : CF) : Prop := ∀ (n0 : Nat) f args h H v h' ws, Sub n0 h H → n0 ≤ h.length → cf f args h = some (v, h', ws) → ∃ H', cf f args H = some (v, H', ws) ∧ SubR n0 ws h' H'

section
variable {n0 : Nat} {h H : Heap}

theorem rowAt_mono (s : Sub n0 h H) {id sz : Nat} {r : Nat × List (List Leaf)} (e : rowAt h id sz = some r) : rowAt H id sz = some r := by
  obtain ⟨h1, h2⟩ := rowAt_some e
  simp [rowAt, s.alive h1, h2]

theorem rd_mono (s : Sub n0 h H) {l : Leaf} {n : Nat} {cs : List Leaf} (e : rd h l n = some cs) : rd H l n = some cs := by
  unfold rd at e ⊢
  split at e
  · obtain ⟨r, e1, e2⟩ := Option.bind_eq_some_iff.1 e
    (try simp only [])
    rw [rowAt_mono s e1]; exact e2
  · exact e
  · cases e

theorem view_mono (s : Sub n0 h H) {l : Leaf} {es : List (List Leaf)} (e : view h l = some es) : view H l = some es := by
  unfold view at e ⊢
  split at e
  · exact e
  · exact e
  · exact e
  · obtain ⟨r, e1, e2⟩ := Option.bind_eq_some_iff.1 e
    (try simp only [])
    rw [rowAt_mono s e1]; exact e2
  · cases e

theorem wr_mono (s : Sub n0 h H) {l : Leaf} {new : List Leaf} {r : Heap × List Nat} (e : wr h l new = some r) : ∃ H', wr H l new = some (H', r.2) ∧ SubR n0 r.2 r.1 H' := by
  unfold wr at e ⊢
  split at e
  · rename_i id sz i off
    obtain ⟨r0, e1, e2⟩ := Option.bind_eq_some_iff.1 e
    obtain ⟨ce, e3, e4⟩ := Option.bind_eq_some_iff.1 e2
    split at e4
    · rename_i hfit
      cases e4
      (try simp only [])
      rw [rowAt_mono s e1]
      simp only [Option.bind_some, e3, hfit, if_true]
      refine ⟨_, rfl, s.set id _, fun k hk => ?_⟩
      simp at hk; subst hk
      simp [List.getElem?_set, s.1]
    · cases e4
  · cases e

theorem put_mono (s : Sub n0 h H) {slot : Option Nat} (hs : ∀ k, slot = some k → n0 ≤ k) {o : AO} {id : Nat} {h' : Heap} (e : put slot h o = some (id, h')) : ∃ H', put slot H o = some (id, H') ∧ Sub n0 h' H' := by
  unfold put at e ⊢
  cases slot with
  | none => cases e; exact ⟨_, by rw [s.1], s.push _⟩
  | some k =>
    simp only at e ⊢
    rw [← (s.2 k).1 (hs k rfl)]
    split at e
    · rename_i hn; cases e; exact ⟨_, rfl, s.set _ _⟩
    · cases e

theorem allocR_mono (s : Sub n0 h H) {slot : Option Nat} (hs : ∀ k, slot = some k → n0 ≤ k) {o : AO} {mk : Nat → V} {v : V} {h' : Heap} {ws : List Nat} (e : allocR slot h o mk = some (v, h', ws)) : ∃ H', allocR slot H o mk = some (v, H', ws) ∧ SubR n0 ws h' H' := by
  unfold allocR at e ⊢
  obtain ⟨r, e1, e2⟩ := Option.map_eq_some_iff.1 e
  cases e2
  obtain ⟨H', k1, k2⟩ := put_mono s hs e1
  exact ⟨H', by rw [k1]; rfl, k2, fun id hid => by simp at hid⟩

theorem pureR_mono (s : Sub n0 h H) {x y : Option V} (hxy : ∀ v, x = some v → y = some v) {v : V} {h' : Heap} {ws : List Nat} (e : pureR h x = some (v, h', ws)) : ∃ H', pureR H y = some (v, H', ws) ∧ SubR n0 ws h' H' := by
  obtain ⟨e1, rfl, rfl⟩ := pureR_some e
  exact ⟨H, by simp [pureR, hxy v e1], s, fun id hid => by simp at hid⟩

theorem srcOf_mono (s : Sub n0 h H) {P : Program} {size : Nat} {tx : TypeId} {x : V} {es : List (List Leaf)} (e : srcOf P h size tx x = some es) : srcOf P H size tx x = some es := by
  unfold srcOf at e ⊢
  split at e
  · rename_i el l ht
    obtain ⟨es', e1, e2⟩ := Option.bind_eq_some_iff.1 e
    rw [view_mono s e1]; exact e2
  · cases e

theorem appendV_mono (s : Sub n0 h H) {P : Program} {slot : Option Nat} (hs : ∀ k, slot = some k → n0 ≤ k) {t tx : TypeId} {sl x v : V} {h' : Heap} {ws : List Nat} (e : appendV P slot h t tx sl x = some (v, h', ws)) :
    ∃ H', appendV P slot H t tx sl x = some (v, H', ws) ∧ SubR n0 ws h' H' := by
  unfold appendV at e ⊢
  obtain ⟨el, e1, q1⟩ := Option.bind_eq_some_iff.1 e
  clear e
  obtain ⟨i, e2, q2⟩ := Option.bind_eq_some_iff.1 q1
  clear q1
  obtain ⟨z, e3, q3⟩ := Option.bind_eq_some_iff.1 q2
  clear q2
  obtain ⟨xs, e4, q4⟩ := Option.bind_eq_some_iff.1 q3
  clear q3
  rw [e1, Option.bind_some, e2, Option.bind_some, e3, Option.bind_some, srcOf_mono s e4, Option.bind_some]
  split at q4
  · cases q4
  · rename_i hg
    rw [if_neg hg]
    have set1 : ∀ (id : Nat) (o : Option AO), SubR n0 [id] (h.set id o) (H.set id o) := fun id o => ⟨s.set id o, fun k hk => by simp at hk; subst hk; simp [List.getElem?_set, s.1]⟩
    cases sl with
    | junk => simp at q4
    | agg _ => simp at q4
    | tup _ => simp at q4
    | one l =>
      cases l
      case nils =>
        dsimp only at q4 ⊢
        split at q4
        · rename_i h0; rw [if_pos h0]; cases q4; exact ⟨H, rfl, s, fun id hid => by simp at hid⟩
        · rename_i h0; rw [if_neg h0]
          split at q4
          · rename_i h1; rw [if_pos h1]; exact allocR_mono s hs q4
          · cases q4
      case zsl =>
        dsimp only at q4 ⊢
        split at q4
        · rename_i h0; rw [if_pos h0]; cases q4; exact ⟨H, rfl, s, fun id hid => by simp at hid⟩
        · rename_i h0; rw [if_neg h0]
          split at q4
          · rename_i h1; rw [if_pos h1]; exact allocR_mono s hs q4
          · cases q4
      case sl id esz sz off len =>
        dsimp only at q4 ⊢
        obtain ⟨r, e5, q5⟩ := Option.bind_eq_some_iff.1 q4
        clear q4
        rw [rowAt_mono s e5, Option.bind_some]
        split at q5
        · cases q5
        · rename_i h0; rw [if_neg h0]
          split at q5
          · rename_i h1; rw [if_pos h1]
            split at q5
            · rename_i h2; rw [if_pos h2]; cases q5; exact ⟨H, rfl, s, fun id hid => by simp at hid⟩
            · cases q5
          · rename_i h1; rw [if_neg h1]
            split at q5
            · rename_i h2; rw [if_pos h2]
              split at q5
              · rename_i h3; rw [if_pos h3]; cases q5; exact ⟨_, rfl, set1 _ _⟩
              · cases q5
            · rename_i h2; rw [if_neg h2]
              split at q5
              · rename_i h3; rw [if_pos h3]; cases q5; exact ⟨_, rfl, set1 _ _⟩
              · cases q5
      all_goals (exact absurd q4 (by simp))

theorem copyV_mono (s : Sub n0 h H) {P : Program} {t tx : TypeId} {d x v : V} {h' : Heap} {ws : List Nat} (e : copyV P h t tx d x = some (v, h', ws)) :
    ∃ H', copyV P H t tx d x = some (v, H', ws) ∧ SubR n0 ws h' H' := by
  unfold copyV at e ⊢
  obtain ⟨el, e1, q1⟩ := Option.bind_eq_some_iff.1 e
  clear e
  obtain ⟨i, e2, q2⟩ := Option.bind_eq_some_iff.1 q1
  clear q1
  obtain ⟨xs, e4, q4⟩ := Option.bind_eq_some_iff.1 q2
  clear q2
  rw [e1, Option.bind_some, e2, Option.bind_some, srcOf_mono s e4, Option.bind_some]
  split at q4
  · cases q4
  · rename_i hg
    rw [if_neg hg]
    cases d with
    | junk => simp at q4
    | agg _ => simp at q4
    | tup _ => simp at q4
    | one l =>
      cases l
      case sl id esz sz off len =>
        dsimp only at q4 ⊢
        obtain ⟨r, e5, q5⟩ := Option.bind_eq_some_iff.1 q4
        clear q4
        rw [rowAt_mono s e5, Option.bind_some]
        split at q5
        · cases q5
        · rename_i h0; rw [if_neg h0]; cases q5
          exact ⟨_, rfl, s.set _ _, fun k hk => by simp at hk; subst hk; simp [List.getElem?_set, s.1]⟩
      all_goals (exact absurd q4 (by simp))

theorem lenL_mono (s : Sub n0 h H) {l : Leaf} {n : Nat} (e : lenL h l = some n) : lenL H l = some n := by
  unfold lenL at e ⊢
  split at e
  · exact e
  · exact e
  · exact e
  · exact e
  · exact e
  · split at e
    · rename_i ck es hes; (try simp only []); rw [s.alive hes]; exact e
    · cases e
  · exact e
  · exact e
  · cases e

theorem convertV_mono (s : Sub n0 h H) {P : Program} {src dst : TypeId} {x v : V} (e : convertV P h src dst x = some v) : convertV P H src dst x = some v := by
  unfold convertV at e ⊢
  split at e
  · exact e
  · exact e
  · rename_i _ el l _ h1 h2
    split at e
    · rename_i he
      obtain ⟨es, e1, e2⟩ := Option.bind_eq_some_iff.1 e
      rw [view_mono s e1]; exact e2
    · cases e
  · exact e
  · cases e

theorem mapOf_mono (s : Sub n0 h H) {m : V} {es : List (Leaf × V × Nat)} (e : mapOf h m = some es) : mapOf H m = some es := by
  unfold mapOf at e ⊢
  split at e
  · exact e
  · exact e
  · split at e
    · rename_i ck es' he
      cases e
      rw [s.alive he]
    · cases e
  · cases e
theorem lookupV_mono (s : Sub n0 h H) {P : Program} {t : TypeId} {m k v : V} {ok : Bool} (e : lookupV P h t m k ok = some v) : lookupV P H t m k ok = some v := by
  unfold lookupV at e ⊢
  obtain ⟨q, a1, e1⟩ := Option.bind_eq_some_iff.1 e
  obtain ⟨es, a2, e2⟩ := Option.bind_eq_some_iff.1 e1
  rw [a1, Option.bind_some, mapOf_mono s a2, Option.bind_some]
  exact e2
theorem mapUpdV_mono (s : Sub n0 h H) {P : Program} {t : TypeId} {m k x v : V} {h' : Heap} {ws : List Nat} (e : mapUpdV P h t m k x = some (v, h', ws)) : ∃ H', mapUpdV P H t m k x = some (v, H', ws) ∧ SubR n0 ws h' H' := by
  unfold mapUpdV at e ⊢
  obtain ⟨q, a1, e1⟩ := Option.bind_eq_some_iff.1 e
  simp only [a1, Option.bind_some]
  split at e1
  · rename_i id
    (try simp only)
    split at e1
    · rename_i lk
      (try simp only)
      split at e1
      · rename_i hk
        rw [if_pos hk]
        split at e1
        · rename_i ck es he
          obtain ⟨es', a2, e2⟩ := Option.map_eq_some_iff.1 e1
          cases e2
          have hl := (List.getElem?_eq_some_iff.1 he).1
          have hL := (List.getElem?_eq_some_iff.1 (s.alive he)).1
          rw [s.alive he]
          (try simp only)
          rw [a2]
          refine ⟨_, rfl, s.set _ _, fun i hi => ?_⟩
          simp only [List.mem_singleton] at hi
          subst hi
          simp [hl, hL]
        · cases e1
      · cases e1
    · cases e1
  · cases e1
theorem delV_mono (s : Sub n0 h H) {P : Program} {t : TypeId} {m k v : V} {h' : Heap} {ws : List Nat} (e : delV P h t m k = some (v, h', ws)) : ∃ H', delV P H t m k = some (v, H', ws) ∧ SubR n0 ws h' H' := by
  unfold delV at e ⊢
  obtain ⟨q, a1, e1⟩ := Option.bind_eq_some_iff.1 e
  simp only [a1, Option.bind_some]
  split at e1
  · rename_i id
    (try simp only)
    split at e1
    · rename_i lk
      (try simp only)
      split at e1
      · rename_i hk
        rw [if_pos hk]
        split at e1
        · rename_i ck es he
          obtain ⟨es', a2, e2⟩ := Option.map_eq_some_iff.1 e1
          cases e2
          have hl := (List.getElem?_eq_some_iff.1 he).1
          have hL := (List.getElem?_eq_some_iff.1 (s.alive he)).1
          rw [s.alive he]
          (try simp only)
          rw [a2]
          refine ⟨_, rfl, s.set _ _, fun i hi => ?_⟩
          simp only [List.mem_singleton] at hi
          subst hi
          simp [hl, hL]
        · cases e1
      · cases e1
    · cases e1
  · cases e1

theorem mapEntV_mono (s : Sub n0 h H) {P : Program} {t : TypeId} {m k v : V} {h' : Heap} {ws : List Nat} (e : mapEntV P h t m k = some (v, h', ws)) : ∃ H', mapEntV P H t m k = some (v, H', ws) ∧ SubR n0 ws h' H' := by
  unfold mapEntV at e ⊢
  obtain ⟨q, a1, e1⟩ := Option.bind_eq_some_iff.1 e
  simp only [a1, Option.bind_some]
  split at e1
  · rename_i id
    (try simp only)
    split at e1
    · rename_i lk
      (try simp only)
      split at e1
      · rename_i hk
        rw [if_pos hk]
        split at e1
        · rename_i ck es he
          obtain ⟨es', a2, e2⟩ := Option.map_eq_some_iff.1 e1
          cases e2
          have hl := (List.getElem?_eq_some_iff.1 he).1
          have hL := (List.getElem?_eq_some_iff.1 (s.alive he)).1
          rw [s.alive he]
          (try simp only)
          rw [a2]
          refine ⟨_, rfl, s.set _ _, fun i hi => ?_⟩
          simp only [List.mem_singleton] at hi
          subst hi
          simp [hl, hL]
        · cases e1
      · cases e1
    · cases e1
  · cases e1
theorem entStoV_mono (s : Sub n0 h H) {m b x v : V} {h' : Heap} {ws : List Nat} (e : entStoV h m b x = some (v, h', ws)) : ∃ H', entStoV H m b x = some (v, H', ws) ∧ SubR n0 ws h' H' := by
  unfold entStoV at e ⊢
  split at e
  · rename_i id
    (try simp only)
    split at e
    · rename_i n
      (try simp only)
      split at e
      · rename_i ck es he
        obtain ⟨es', a2, e2⟩ := Option.map_eq_some_iff.1 e
        cases e2
        have hl := (List.getElem?_eq_some_iff.1 he).1
        have hL := (List.getElem?_eq_some_iff.1 (s.alive he)).1
        rw [s.alive he]
        (try simp only)
        rw [a2]
        refine ⟨_, rfl, s.set _ _, fun i hi => ?_⟩
        simp only [List.mem_singleton] at hi
        subst hi
        simp [hl, hL]
      · cases e
    · cases e
  · cases e

theorem absOp_mono {P : Program} {cf : CF} (hcf : CFMono cf) (s : Sub n0 h H) (hn : n0 ≤ h.length) {slot : Option Nat} (hs : ∀ k, slot = some k → n0 ≤ k) {t : Tmps} {o : Oper} {v : V} {h' : Heap} {ws : List Nat}
    (e : absOp P cf slot t h o = some (v, h', ws)) : ∃ H', absOp P cf slot t H o = some (v, H', ws) ∧ SubR n0 ws h' H' := by
  unfold absOp at e ⊢
  split at e
  · exact pureR_mono s (fun _ h => h) e
  · exact pureR_mono s (fun _ h => h) e
  · (try simp only [])
    split at e
    · exact pureR_mono s (fun _ h => h) e
    · exact pureR_mono s (fun _ h => h) e
    · cases e
  · obtain ⟨z, e1, e2⟩ := Option.bind_eq_some_iff.1 e
    (try simp only [])
    rw [e1, Option.bind_some]; exact allocR_mono s hs e2
  · (try simp only [])
    split at e
    · exact allocR_mono s hs e
    · exact allocR_mono s hs e
    · cases e
  · exact pureR_mono s (fun _ h => h) e
  · (try simp only [])
    unfold buildSliceV at e ⊢
    obtain ⟨_, a1, e1⟩ := Option.bind_eq_some_iff.1 e
    obtain ⟨_, a2, e2⟩ := Option.bind_eq_some_iff.1 e1
    obtain ⟨_, a3, e3⟩ := Option.bind_eq_some_iff.1 e2
    rw [a1, Option.bind_some, a2, Option.bind_some, a3, Option.bind_some]
    split at e3
    · cases e3
    · rename_i hg
      rw [if_neg hg]
      obtain ⟨_, a4, e4⟩ := Option.bind_eq_some_iff.1 e3
      rw [a4, Option.bind_some]; exact allocR_mono s hs e4
  · (try simp only [])
    split at e
    · obtain ⟨g, a1, e1⟩ := Option.bind_eq_some_iff.1 e
      obtain ⟨n, a2, e2⟩ := Option.bind_eq_some_iff.1 e1
      obtain ⟨cs, a3, e3⟩ := Option.bind_eq_some_iff.1 e2
      rw [a1, Option.bind_some, a2, Option.bind_some, rd_mono s a3, Option.bind_some]
      exact pureR_mono s (fun _ h => h) e3
    · cases e
  · (try simp only [])
    have wrF : ∀ {l : Leaf} {new : List Leaf}, (wr h l new).map (fun r => (V.junk, r.1, r.2)) = some (v, h', ws) → ∃ H', (wr H l new).map (fun r => (V.junk, r.1, r.2)) = some (v, H', ws) ∧ SubR n0 ws h' H' := by
      intro l new e5
      obtain ⟨r, e6, e7⟩ := Option.map_eq_some_iff.1 e5
      cases e7
      obtain ⟨H', k1, k2⟩ := wr_mono s e6
      exact ⟨H', by rw [k1]; rfl, k2⟩
    split at e
    · obtain ⟨n, a1, e1⟩ := Option.bind_eq_some_iff.1 e
      rw [a1, Option.bind_some]
      split at e1
      · split at e1
        · rename_i hn1; rw [if_pos hn1]; exact wrF e1
        · cases e1
      · split at e1
        · rename_i hn1; rw [if_pos hn1]; exact wrF e1
        · cases e1
      · cases e1
    · cases e
  · (try simp only [])
    split at e
    · exact pureR_mono s (fun _ h => h) e
    · exact pureR_mono s (fun _ h => h) e
    · exact pureR_mono s (fun _ h => h) e
    · cases e
  · exact pureR_mono s (fun _ h => h) e
  · exact pureR_mono s (fun _ h => h) e
  · exact pureR_mono s (fun _ h => convertV_mono s h) e
  · (try simp only [])
    split at e
    · rename_i hf
      rw [if_pos hf]
      obtain ⟨ls, a1, e1⟩ := Option.bind_eq_some_iff.1 e
      rw [a1, Option.bind_some]
      exact pureR_mono s (fun _ h => h) e1
    · cases e
  · exact allocR_mono s hs e
  · exact pureR_mono s (fun _ h => lookupV_mono s h) e
  · exact mapUpdV_mono s e
  · exact mapEntV_mono s e
  · exact entStoV_mono s e
  · (try simp only [])
    unfold makeSliceV at e ⊢
    obtain ⟨_, a1, e1⟩ := Option.bind_eq_some_iff.1 e
    obtain ⟨_, a2, e2⟩ := Option.bind_eq_some_iff.1 e1
    obtain ⟨_, a3, e3⟩ := Option.bind_eq_some_iff.1 e2
    obtain ⟨_, a4, e4⟩ := Option.bind_eq_some_iff.1 e3
    obtain ⟨_, a5, e5⟩ := Option.bind_eq_some_iff.1 e4
    rw [a1, Option.bind_some, a2, Option.bind_some, a3, Option.bind_some, a4, Option.bind_some, a5, Option.bind_some]
    split at e5
    · rename_i hg; rw [if_pos hg]; exact allocR_mono s hs e5
    · cases e5
  · exact pureR_mono s (fun _ h => h) e
  · exact pureR_mono s (fun _ h => h) e
  · (try simp only [])
    split at e
    · exact pureR_mono s (fun _ h => h) e
    · cases e
  · exact pureR_mono s (fun _ h => h) e
  · exact pureR_mono s (fun _ h => h) e
  · (try simp only [])
    split at e
    · exact pureR_mono s (fun _ h => h) e
    · cases e
  · (try simp only [])
    split at e
    · split at e
      · split at e
        · rename_i hok
          rw [if_pos hok]
          refine pureR_mono s (fun v hv => ?_) e
          obtain ⟨n, a1, a2⟩ := Option.map_eq_some_iff.1 hv
          rw [lenL_mono s a1]; simpa using a2
        · cases e
      · cases e
    · exact appendV_mono s hs e
    · exact copyV_mono s e
    · exact delV_mono s e
    · exact pureR_mono s (fun _ h => h) e
    · cases e
  · (try simp only [])
    split at e
    · split at e
      · rename_i hc; rw [if_pos hc]; exact hcf n0 _ _ _ _ _ _ _ s hn e
      · cases e
    · cases e
  · cases e
end
end Go.Proofs.YtkbdhjfjbkmkcaaGreat.Abs
