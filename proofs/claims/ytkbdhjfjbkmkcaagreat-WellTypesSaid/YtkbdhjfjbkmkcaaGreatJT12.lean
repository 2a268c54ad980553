/- The abstract machine: what is not told to be written stays. -/
import Derived.Test.YtkbdhjfjbkmkcaaGreatJT10
import Derived.Test.YtkbdhjfjbkmkcaaGreatJT11
set_option linter.unusedSimpArgs false
set_option linter.unusedVariables false
namespace Go.Proofs.YtkbdhjfjbkmkcaaGreat.Abs
open Go Go.RowKit

def Fr (slot : Option Nat) (H H' : Heap) (ws : List Nat) : Prop := H.length ≤ H'.length ∧ ∀ id, id < H.length → id ∉ ws → slot ≠ some id → H'[id]? = H[id]?

theorem Fr.same (slot : Option Nat) (H : Heap) (ws : List Nat) : Fr slot H H ws := ⟨Nat.le_refl _, fun _ _ _ _ => rfl⟩

def CFFr (cf : CF) : Prop := ∀ f args H v H' ws, cf f args H = some (v, H', ws) → Fr none H H' ws

theorem put_fr {slot : Option Nat} {H H' : Heap} {o : AO} {id : Nat} (e : put slot H o = some (id, H')) : Fr slot H H' [] := by
  unfold put at e
  cases slot with
  | none => cases e; exact ⟨by simp, fun k hk _ _ => List.getElem?_append_left hk⟩
  | some i =>
    simp only at e
    split at e
    · cases e
      refine ⟨by simp, fun k hk _ hs => ?_⟩
      rw [List.getElem?_set_ne]; rintro rfl; exact hs rfl
    · cases e

theorem allocR_fr {slot : Option Nat} {H H' : Heap} {o : AO} {mk : Nat → V} {v : V} {ws : List Nat} (e : allocR slot H o mk = some (v, H', ws)) : Fr slot H H' ws := by
  unfold allocR at e
  obtain ⟨r, e1, e2⟩ := Option.map_eq_some_iff.1 e
  cases e2
  exact put_fr e1

theorem set_fr (slot : Option Nat) (H : Heap) (id : Nat) (o : Option AO) : Fr slot H (H.set id o) [id] :=
  ⟨by simp, fun k hk hn _ => by rw [List.getElem?_set_ne]; rintro rfl; simp at hn⟩

theorem pureR_fr {slot : Option Nat} {H H' : Heap} {x : Option V} {v : V} {ws : List Nat} (e : pureR H x = some (v, H', ws)) : Fr slot H H' ws := by
  obtain ⟨_, rfl, rfl⟩ := pureR_some e
  exact .same _ _ _

theorem mapUpdV_fr {P : Program} {slot : Option Nat} {H H' : Heap} {t : TypeId} {m k x v : V} {ws : List Nat} (e : mapUpdV P H t m k x = some (v, H', ws)) : Fr slot H H' ws := by
  unfold mapUpdV at e
  obtain ⟨_, _, e1⟩ := Option.bind_eq_some_iff.1 e
  split at e1
  · split at e1
    · split at e1
      · split at e1
        · obtain ⟨_, _, e2⟩ := Option.map_eq_some_iff.1 e1
          cases e2; exact set_fr _ _ _ _
        · cases e1
      · cases e1
    · cases e1
  · cases e1
theorem delV_fr {P : Program} {slot : Option Nat} {H H' : Heap} {t : TypeId} {m k v : V} {ws : List Nat} (e : delV P H t m k = some (v, H', ws)) : Fr slot H H' ws := by
  unfold delV at e
  obtain ⟨_, _, e1⟩ := Option.bind_eq_some_iff.1 e
  split at e1
  · split at e1
    · split at e1
      · split at e1
        · obtain ⟨_, _, e2⟩ := Option.map_eq_some_iff.1 e1
          cases e2; exact set_fr _ _ _ _
        · cases e1
      · cases e1
    · cases e1
  · cases e1

theorem mapEntV_fr {P : Program} {slot : Option Nat} {H H' : Heap} {t : TypeId} {m k v : V} {ws : List Nat} (e : mapEntV P H t m k = some (v, H', ws)) : Fr slot H H' ws := by
  unfold mapEntV at e
  obtain ⟨_, _, e1⟩ := Option.bind_eq_some_iff.1 e
  split at e1
  · split at e1
    · split at e1
      · split at e1
        · obtain ⟨_, _, e2⟩ := Option.map_eq_some_iff.1 e1
          cases e2; exact set_fr _ _ _ _
        · cases e1
      · cases e1
    · cases e1
  · cases e1
theorem entStoV_fr {slot : Option Nat} {H H' : Heap} {m b x v : V} {ws : List Nat} (e : entStoV H m b x = some (v, H', ws)) : Fr slot H H' ws := by
  unfold entStoV at e
  split at e
  · split at e
    · split at e
      · obtain ⟨_, _, e2⟩ := Option.map_eq_some_iff.1 e
        cases e2; exact set_fr _ _ _ _
      · cases e
    · cases e
  · cases e

theorem absOp_fr {P : Program} {cf : CF} (hcf : CFFr cf) {slot : Option Nat} {t : Tmps} {H H' : Heap} {o : Oper} {v : V} {ws : List Nat} (e : absOp P cf slot t H o = some (v, H', ws)) : Fr slot H H' ws := by
  unfold absOp at e
  split at e
  · exact pureR_fr e
  · exact pureR_fr e
  · split at e
    · exact pureR_fr e
    · exact pureR_fr e
    · cases e
  · obtain ⟨z, e1, e2⟩ := Option.bind_eq_some_iff.1 e; exact allocR_fr e2
  · split at e
    · exact allocR_fr e
    · exact allocR_fr e
    · cases e
  · exact pureR_fr e
  · unfold buildSliceV at e
    obtain ⟨_, _, e1⟩ := Option.bind_eq_some_iff.1 e
    obtain ⟨_, _, e2⟩ := Option.bind_eq_some_iff.1 e1
    obtain ⟨_, _, e3⟩ := Option.bind_eq_some_iff.1 e2
    split at e3
    · cases e3
    · obtain ⟨_, _, e4⟩ := Option.bind_eq_some_iff.1 e3; exact allocR_fr e4
  · split at e
    · obtain ⟨_, _, e1⟩ := Option.bind_eq_some_iff.1 e
      obtain ⟨_, _, e2⟩ := Option.bind_eq_some_iff.1 e1
      obtain ⟨_, _, e3⟩ := Option.bind_eq_some_iff.1 e2
      exact pureR_fr e3
    · cases e
  · have wrF : ∀ {l : Leaf} {new : List Leaf}, (wr H l new).map (fun r => (V.junk, r.1, r.2)) = some (v, H', ws) → Fr slot H H' ws := by
      intro l new e5
      obtain ⟨r, e6, e7⟩ := Option.map_eq_some_iff.1 e5
      cases e7
      unfold wr at e6
      split at e6
      · obtain ⟨_, _, e8⟩ := Option.bind_eq_some_iff.1 e6
        obtain ⟨_, _, e9⟩ := Option.bind_eq_some_iff.1 e8
        split at e9
        · cases e9; exact set_fr _ _ _ _
        · cases e9
      · cases e6
    split at e
    · obtain ⟨n, _, e1⟩ := Option.bind_eq_some_iff.1 e
      split at e1
      · split at e1
        · exact wrF e1
        · cases e1
      · split at e1
        · exact wrF e1
        · cases e1
      · cases e1
    · cases e
  · split at e
    · exact pureR_fr e
    · exact pureR_fr e
    · exact pureR_fr e
    · cases e
  · exact pureR_fr e
  · exact pureR_fr e
  · exact pureR_fr e
  · split at e
    · obtain ⟨_, _, e1⟩ := Option.bind_eq_some_iff.1 e; exact pureR_fr e1
    · cases e
  · exact allocR_fr e
  · exact pureR_fr e
  · exact mapUpdV_fr e
  · exact mapEntV_fr e
  · exact entStoV_fr e
  · unfold makeSliceV at e
    obtain ⟨_, _, e1⟩ := Option.bind_eq_some_iff.1 e
    obtain ⟨_, _, e2⟩ := Option.bind_eq_some_iff.1 e1
    obtain ⟨_, _, e3⟩ := Option.bind_eq_some_iff.1 e2
    obtain ⟨_, _, e4⟩ := Option.bind_eq_some_iff.1 e3
    obtain ⟨_, _, e5⟩ := Option.bind_eq_some_iff.1 e4
    split at e5
    · exact allocR_fr e5
    · cases e5
  · exact pureR_fr e
  · exact pureR_fr e
  · split at e
    · exact pureR_fr e
    · cases e
  · exact pureR_fr e
  · exact pureR_fr e
  · split at e
    · exact pureR_fr e
    · cases e
  · split at e
    · split at e
      · split at e
        · exact pureR_fr e
        · cases e
      · cases e
    · unfold appendV at e
      obtain ⟨_, _, e1⟩ := Option.bind_eq_some_iff.1 e
      clear e
      obtain ⟨_, _, e2⟩ := Option.bind_eq_some_iff.1 e1
      clear e1
      obtain ⟨_, _, e3⟩ := Option.bind_eq_some_iff.1 e2
      clear e2
      obtain ⟨xs, _, e4⟩ := Option.bind_eq_some_iff.1 e3
      clear e3
      split at e4
      · cases e4
      · split at e4
        · split at e4
          · cases e4; exact .same _ _ _
          · split at e4
            · exact allocR_fr e4
            · cases e4
        · split at e4
          · cases e4; exact .same _ _ _
          · split at e4
            · exact allocR_fr e4
            · cases e4
        · obtain ⟨_, _, e5⟩ := Option.bind_eq_some_iff.1 e4
          clear e4
          split at e5
          · cases e5
          · split at e5
            · split at e5
              · cases e5; exact .same _ _ _
              · cases e5
            · split at e5
              · split at e5
                · cases e5; exact set_fr _ _ _ _
                · cases e5
              · split at e5
                · cases e5; exact set_fr _ _ _ _
                · cases e5
        · cases e4
    · unfold copyV at e
      obtain ⟨_, _, e1⟩ := Option.bind_eq_some_iff.1 e
      clear e
      obtain ⟨_, _, e2⟩ := Option.bind_eq_some_iff.1 e1
      clear e1
      obtain ⟨xs, _, e4⟩ := Option.bind_eq_some_iff.1 e2
      clear e2
      split at e4
      · cases e4
      · split at e4
        · obtain ⟨_, _, e5⟩ := Option.bind_eq_some_iff.1 e4
          clear e4
          split at e5
          · cases e5
          · cases e5; exact set_fr _ _ _ _
        · cases e4
    · exact delV_fr e
    · exact pureR_fr e
    · cases e
  · split at e
    · split at e
      · obtain ⟨h1, h2⟩ := hcf _ _ _ _ _ _ e
        exact ⟨h1, fun id hid hn _ => h2 id hid hn (by simp)⟩
      · cases e
    · cases e
  · cases e

def FrS (n0 : Nat) (s s' : St) : Prop := (n0 ≤ s.heap.length → n0 ≤ s'.heap.length) ∧ (∀ x, x ∈ s.ws → x < n0 → x ∈ s'.ws) ∧ ∀ id, id < n0 → id ∉ s'.ws → s'.heap[id]? = s.heap[id]?

theorem FrS.refl (n0 : Nat) (s : St) : FrS n0 s s := ⟨fun h => h, fun _ h _ => h, fun _ _ _ => rfl⟩
theorem FrS.trans {n0 : Nat} {a b c : St} (h : FrS n0 a b) (k : FrS n0 b c) : FrS n0 a c :=
  ⟨fun x => k.1 (h.1 x), fun x hx hl => k.2.1 x (h.2.1 x hx hl) hl, fun id hid hn => (k.2.2 id hid hn).trans (h.2.2 id hid fun hx => hn (k.2.1 id hx hid))⟩

theorem absOps_fr {P : Program} {cf : CF} (hcf : CFFr cf) {N n0 : Nat} {ops : Array Oper} : ∀ (l : List Oper) (s s' : St), n0 ≤ s.heap.length → absOps P cf N ops l s = some s' → FrS n0 s s'
  | [], s, s', _, e => by cases e; exact .refl _ _
  | o :: l, s, s', hn, e => by
    unfold absOps at e
    split at e
    · cases e
    · exact absOps_fr hcf l { s with tmps := setD N s.tmps o.dst (.tup []) } s' hn e
    · split at e
      · cases e
      · rename_i v H' ws hop
        obtain ⟨h1, h2⟩ := absOp_fr hcf hop
        have h3 : FrS n0 s { tmps := setD N s.tmps o.dst v, heap := H', ws := s.ws ++ ws } :=
          ⟨fun hx => Nat.le_trans hx h1, fun x hx _ => List.mem_append_left _ hx, fun id hid hnw => h2 id (by omega) (fun hx => hnw (List.mem_append_right _ hx)) (by simp)⟩
        exact h3.trans (absOps_fr hcf l _ s' (h3.1 hn) e)

theorem blank_get (ids : List Nat) : ∀ (H : Heap) (i k : Nat), (blank ids i H)[k]? = if i + k ∈ ids then (H[k]?).map fun _ => none else H[k]?
  | [], i, k => by simp [blank]
  | o :: H, i, 0 => by
    simp only [blank, List.getElem?_cons_zero, Nat.add_zero]
    by_cases h : i ∈ ids <;> simp [h]
  | o :: H, i, k + 1 => by
    simp only [blank, List.getElem?_cons_succ]
    rw [blank_get ids H (i + 1) k, show i + 1 + k = i + (k + 1) by omega]

theorem blank_length (ids : List Nat) : ∀ (H : Heap) (i : Nat), (blank ids i H).length = H.length
  | [], i => rfl
  | o :: H, i => by simp [blank, blank_length ids H]

theorem putBack_get (ids : List Nat) (H' : Heap) : ∀ (H : Heap) (i k : Nat), k < H.length → (putBack ids H' i H)[k]? = if i + k ∈ ids then some (H'.getD (i + k) none) else H[k]?
  | [], i, k, h => by simp at h
  | o :: H, i, 0, h => by
    simp only [putBack, List.getElem?_cons_zero, Nat.add_zero]
    by_cases h : i ∈ ids <;> simp [h]
  | o :: H, i, k + 1, h => by
    simp only [putBack, List.getElem?_cons_succ]
    rw [putBack_get ids H' H (i + 1) k (by simpa using h), show i + 1 + k = i + (k + 1) by omega]

theorem putBack_length (ids : List Nat) (H' : Heap) : ∀ (H : Heap) (i : Nat), (putBack ids H' i H).length = H.length
  | [], i => rfl
  | o :: H, i => by simp [putBack, putBack_length ids H' H]

theorem drawOp_fr {P : Program} {cf : CF} (hcf : CFFr cf) {slot : Nat} {t : Tmps} {H H' : Heap} {b : Nat} {hs : List Nat} {o : Oper} {v : V} {ws : List Nat} {r : Rec} (e : drawOp P cf slot t H b hs o = some (v, H', ws, r)) : Fr (some slot) H H' ws := by
  unfold drawOp at e
  split at e
  · split at e
    · cases e; exact .same _ _ _
    · cases e
  · split at e
    · cases e; rename_i h; exact absOp_fr hcf h
    · cases e
  · split at e
    · split at e
      · split at e
        · cases e; rename_i h
          obtain ⟨h1, h2⟩ := absOp_fr hcf h
          exact ⟨h1, fun id hid hn _ => h2 id hid hn (by simp)⟩
        · cases e
      · cases e
    · cases e
  · split at e
    · cases e; rename_i h; exact absOp_fr hcf h
    · cases e
  · split at e
    · split at e
      · cases e
        refine ⟨by rw [putBack_length]; exact Nat.le_refl _, fun id hid hn _ => ?_⟩
        rw [putBack_get _ _ _ _ _ hid, Nat.zero_add, if_neg hn]
      · cases e
    · cases e
  · cases e

theorem slotsOf_ge : ∀ (l : List Oper) (n i : Nat), i < l.length → n ≤ (slotsOf l n).getD i 0
  | [], n, i, h => by simp at h
  | o :: l, n, 0, h => by simp [slotsOf]
  | o :: l, n, i + 1, h => by
    have := slotsOf_ge l (if needsSlot o then n + 1 else n) i (by simpa using h)
    simp only [slotsOf, List.getD, List.getElem?_cons_succ] at this ⊢
    refine Nat.le_trans ?_ this
    split <;> omega

theorem drawGo_fr {P : Program} {cf : CF} (hcf : CFFr cf) {N n0 : Nat} {ops : Array Oper} {slots bs : List Nat} (hsl : ∀ i, i < ops.size → n0 ≤ slots.getD i 0) :
    ∀ (l : List Oper) (i : Nat) (recs recs' : List Rec) (s s' : St), i + l.length ≤ ops.size → n0 ≤ s.heap.length → drawGo P cf N ops slots bs l i recs s = some (recs', s') → FrS n0 s s'
  | [], i, recs, recs', s, s', _, _, e => by cases e; exact .refl _ _
  | o :: l, i, recs, recs', s, s', hi, hn, e => by
    unfold drawGo at e
    simp only at e
    split at e
    · split at e
      · cases e
      · exact drawGo_fr hcf hsl l (i + 1) _ recs' { s with tmps := setD N s.tmps o.dst (.tup []) } s' (by simp at hi; omega) hn e
      · split at e
        · cases e
        · rename_i v H' ws r hop
          obtain ⟨h1, h2⟩ := drawOp_fr hcf hop
          have hs := hsl i (by simp at hi; omega)
          have h3 : FrS n0 s { tmps := setD N s.tmps o.dst v, heap := H', ws := s.ws ++ ws } :=
            ⟨fun hx => Nat.le_trans hx h1, fun x hx _ => List.mem_append_left _ hx, fun id hid hnw => h2 id (by omega) (fun hx => hnw (List.mem_append_right _ hx)) (by intro h; cases h; omega)⟩
          exact h3.trans (drawGo_fr hcf hsl l (i + 1) _ recs' _ s' (by simp at hi; omega) (h3.1 hn) e)
    · cases e

theorem absDraw_fr {P : Program} {cf : CF} (hcf : CFFr cf) {N n0 : Nat} {ops : Array Oper} {s s' : St} (hn : n0 ≤ s.heap.length) (e : absDraw P cf N ops s = some s') : FrS n0 s s' := by
  unfold absDraw at e
  simp only at e
  split at e
  · split at e
    · cases e
    · rename_i recs s1 hg
      split at e
      · cases e
        have h1 := drawGo_fr (n0 := n0) hcf (fun i hi => Nat.le_trans hn (slotsOf_ge ops.toList s.heap.length i (by simpa using hi))) ops.toList 0 [] recs { s with heap := s.heap ++ List.replicate (slotCount ops.toList) none } s' (by simp) (by simp; omega) hg
        refine ⟨fun _ => h1.1 (by simp; omega), h1.2.1, fun id hid hnw => ?_⟩
        rw [h1.2.2 id hid hnw]
        exact List.getElem?_append_left (by omega)
      · cases e
  · cases e

theorem iter_fr {n0 : Nat} {f : St → Option (AX × St)} (hf : ∀ s x s', n0 ≤ s.heap.length → f s = some (x, s') → FrS n0 s s') : ∀ (n : Nat) (s : St) (x : AX) (s' : St), n0 ≤ s.heap.length → iter f n s = some (x, s') → FrS n0 s s'
  | 0, s, x, s', _, e => by cases e
  | n + 1, s, x, s', hn, e => by
    unfold iter at e
    split at e
    · rename_i s1 h1
      have := hf s _ s1 hn h1
      exact this.trans (iter_fr hf n s1 x s' (this.1 hn) e)
    · rename_i r h1
      exact hf s x s' hn e

theorem rangeGo_fr {n0 : Nat} {f : List V → St → Option (AX × St)} (hf : ∀ v s x s', n0 ≤ s.heap.length → f v s = some (x, s') → FrS n0 s s') : ∀ (xs : List (List V)) (s : St) (x : AX) (s' : St), n0 ≤ s.heap.length → rangeGo f xs s = some (x, s') → FrS n0 s s'
  | [], s, x, s', _, e => by cases e; exact .refl _ _
  | v :: xs, s, x, s', hn, e => by
    unfold rangeGo at e
    split at e
    · rename_i s1 h1
      have := hf v s _ s1 hn h1
      exact this.trans (rangeGo_fr hf xs s1 x s' (this.1 hn) e)
    · rename_i r h1
      exact hf v s x s' hn e

theorem fzH_some {H1 : Heap} {n0 : Nat} {L : List (Option Nat)} : ∀ {ids : List Nat} {acc h' : Heap}, fzH H1 n0 L ids acc = some h' → h'.length = acc.length ∧
    ∀ k, k < acc.length → (k ∈ ids ∧ ∃ o o', H1[k]? = some (some o) ∧ fzO H1 n0 L o = some o' ∧ h'[k]? = some (some o')) ∨ (k ∉ ids ∧ h'[k]? = acc[k]?)
  | [], acc, h', e => by cases e; exact ⟨rfl, fun k _ => .inr ⟨by simp, rfl⟩⟩
  | id :: ids, acc, h', e => by
    unfold fzH at e
    split at e
    · rename_i o ho
      split at e
      · cases e
      · rename_i o' ho'
        obtain ⟨h1, h2⟩ := fzH_some e
        rw [List.length_set] at h1
        refine ⟨h1, fun k hk => ?_⟩
        rcases h2 k (by rw [List.length_set]; exact hk) with ⟨g1, g2⟩ | ⟨g1, g2⟩
        · exact .inl ⟨List.mem_cons_of_mem _ g1, g2⟩
        · by_cases hki : k = id
          · subst hki
            exact .inl ⟨List.mem_cons_self, o, o', ho, ho', by rw [g2]; simp [hk]⟩
          · right
            refine ⟨by simp [hki, g1], ?_⟩
            rw [g2, List.getElem?_set_ne (Ne.symm hki)]
    · cases e

theorem fzH_fr {H1 : Heap} {n0 : Nat} {L : List (Option Nat)} {ws : List Nat} {h' : Heap} (hl : n0 ≤ H1.length) (e : fzH H1 n0 L ws (H1.take n0) = some h') : h'.length = n0 ∧ ∀ k, k < n0 → k ∉ ws → h'[k]? = H1[k]? := by
  obtain ⟨g1, g2⟩ := fzH_some e
  refine ⟨by rw [g1, List.length_take]; omega, fun k hk hn => ?_⟩
  rcases g2 k (by rw [List.length_take]; omega) with ⟨k1, _⟩ | ⟨_, k2⟩
  · exact (hn k1).elim
  · rw [k2, List.getElem?_take, if_pos hk]

theorem mem_ws (n0 : Nat) (ws : List Nat) (id : Nat) : id ∈ wsOf n0 ws ↔ id ∈ ws ∧ id < n0 := by
  simp [wsOf, List.mem_eraseDups]

theorem tidyO_some {n0 : Nat} {K : List (Nat × Kd)} {s s' : St} (e : tidyO n0 K s = some s') : okL n0 (kdL s.heap n0 s.tmps K) = true ∧ ∃ q h', kdAll s.heap n0 (kdL s.heap n0 s.tmps K) s.tmps 0 K = some q ∧
    fzH s.heap n0 (kdL s.heap n0 s.tmps K) (wsOf n0 s.ws) (s.heap.take n0) = some h' ∧ s' = ⟨q.1, h' ++ q.2, wsOf n0 s.ws⟩ := by
  unfold tidyO at e
  simp only at e
  split at e
  · rename_i hok
    split at e
    · cases e
    · rename_i q hq
      split at e
      · cases e
      · rename_i h' hh
        cases e
        exact ⟨hok, q, h', hq, hh, rfl⟩
  · cases e

theorem tidyO_fr {n0 : Nat} {K : List (Nat × Kd)} {s s' : St} (hn : n0 ≤ s.heap.length) (e : tidyO n0 K s = some s') : FrS n0 s s' := by
  obtain ⟨_, q, h', _, hh, rfl⟩ := tidyO_some e
  obtain ⟨k1, k2⟩ := fzH_fr hn hh
  refine ⟨fun _ => by simp; omega, fun x hx hl => (mem_ws _ _ _).2 ⟨hx, hl⟩, fun id hid hnw => ?_⟩
  simp only
  rw [List.getElem?_append_left (by omega)]
  exact k2 id hid hnw

theorem tidy_fr {n0 : Nat} {K : List (Nat × Kd)} {s : St} (hn : n0 ≤ s.heap.length) : FrS n0 s (tidy n0 K s) := by
  unfold tidy
  split
  · rename_i s' e; exact tidyO_fr hn e
  · exact ⟨fun h => h, fun _ h _ => h, fun _ _ _ => rfl⟩

theorem atR_fr {n0 : Nat} {K : List (Nat × Kd)} {id : Nat} {s : St} (hn : n0 ≤ s.heap.length) : FrS n0 s (atR n0 K id s) := by
  unfold atR
  split
  · exact tidy_fr (s := ⟨killT id K s.tmps, s.heap, s.ws⟩) hn
  · exact .refl _ _

theorem tidyR_some {n0 : Nat} {K : List (Nat × Kd)} {r : Option (AX × St)} {x : AX} {s' : St} (e : tidyR n0 K r = some (x, s')) : ∃ s, r = some (x, s) ∧ s' = tidy n0 K s := by
  unfold tidyR at e
  split at e
  · cases e
  · cases e; exact ⟨_, rfl, rfl⟩

theorem roundR_fr {N n0 : Nat} {K : List (Nat × Kd)} {ps : List Nat} {fa fb : St → Option (AX × St)} (ha : ∀ s x s', n0 ≤ s.heap.length → fa s = some (x, s') → FrS n0 s s') (hb : ∀ s x s', n0 ≤ s.heap.length → fb s = some (x, s') → FrS n0 s s') :
    ∀ v s x s', n0 ≤ s.heap.length → roundR N n0 K ps fa fb v s = some (x, s') → FrS n0 s s' := by
  intro v s x s' hn e
  unfold roundR at e
  split at e
  · rename_i s1 h1
    have k1 : FrS n0 s s1 := ha ⟨setAll N ps v s.tmps, s.heap, s.ws⟩ _ _ hn h1
    have l1 := k1.1 hn
    split at e
    · rename_i s2 h2
      cases e
      have k2 : FrS n0 s ⟨s.tmps, s2.heap, s2.ws⟩ := k1.trans (hb s1 _ s2 l1 h2)
      exact k2.trans (tidy_fr (k2.1 hn))
    · rename_i y s2 _ h2
      cases e
      exact k1.trans (hb s1 _ s2 l1 h2)
    · cases e
  · cases e

theorem absCode_fr {P : Program} {cf : CF} (hcf : CFFr cf) {N n n0 : Nat} {K : List (Nat × Kd)} {sc : Code → Code → St → Option (AX × St)} (hsc : ∀ c cur s x s', n0 ≤ s.heap.length → sc c cur s = some (x, s') → FrS n0 s s') (c : Code) :
    ∀ (s : St) (x : AX) (s' : St), n0 ≤ s.heap.length → absCode P cf sc n N n0 K c s = some (x, s') → FrS n0 s s' := by
  induction c with
  | skip => intro s x s' hn e; cases e; exact .refl _ _
  | region id ops draw =>
    intro s x s' hn e
    cases draw with
    | false =>
      simp only [absCode] at e
      obtain ⟨s1, e1, e2⟩ := Option.map_eq_some_iff.1 e
      cases e2
      have h1 := absOps_fr hcf _ s s1 hn e1
      exact h1.trans (atR_fr (h1.1 hn))
    | true =>
      simp only [absCode] at e
      obtain ⟨s1, e1, e2⟩ := Option.map_eq_some_iff.1 e
      cases e2
      have h1 := absDraw_fr hcf hn e1
      exact h1.trans (atR_fr (h1.1 hn))
  | seq a b ih1 ih2 =>
    intro s x s' hn e
    simp only [absCode] at e
    split at e
    · rename_i s1 h1
      have := ih1 s _ s1 hn h1
      exact this.trans (ih2 s1 x s' (this.1 hn) e)
    · exact ih1 s x s' hn e
  | cond c a b ih1 ih2 =>
    intro s x s' hn e
    simp only [absCode] at e
    split at e
    · exact ih1 s x s' hn e
    · exact ih2 s x s' hn e
    · cases e
  | block id c ih =>
    intro s x s' hn e
    simp only [absCode] at e
    split at e
    · rename_i i s1 h1
      have := ih s _ s1 hn h1
      split at e <;> (cases e; exact this)
    · exact ih s x s' hn e
  | loop c ih =>
    intro s x s' hn e
    simp only [absCode] at e
    have h0 := tidy_fr (K := K) hn
    refine h0.trans (iter_fr (f := fun s => tidyR n0 K (absCode P cf sc n N n0 K c s)) ?_ n _ x s' (h0.1 hn) e)
    intro s1 y s2 h1 h2
    obtain ⟨s3, h3, h4⟩ := tidyR_some h2
    have h5 := ih s1 y s3 h1 h3
    rw [h4]
    exact h5.trans (tidy_fr (h5.1 h1))
  | rangeFunc f ps as body ih1 ih2 =>
    intro s x s' hn e
    simp only [absCode] at e
    split at e
    · have h0 := tidy_fr (K := K) hn
      exact h0.trans (rangeGo_fr (roundR_fr ih1 ih2) _ _ x s' (h0.1 hn) e)
    · cases e
  | exit id => intro s x s' hn e; cases e; exact .refl _ _
  | scope c ih =>
    intro s x s' hn e
    simp only [absCode] at e
    split at e
    · rename_i l s1 h1
      have h2 := ih s _ s1 hn h1
      split at e
      · exact h2.trans (hsc _ _ _ _ _ (h2.1 hn) e)
      · cases e; exact h2
    · exact ih s x s' hn e
  | label l => intro s x s' hn e; cases e; exact .refl _ _
  | goto l => intro s x s' hn e; cases e; exact .refl _ _
  | ret => intro s x s' hn e; cases e; exact .refl _ _
  | refuse why => intro s x s' hn e; simp [absCode] at e

theorem absScope_fr {P : Program} {cf : CF} (hcf : CFFr cf) {N n n0 : Nat} {K : List (Nat × Kd)} : ∀ m c cur s x s', n0 ≤ s.heap.length → absScope P cf n N n0 K m c cur s = some (x, s') → FrS n0 s s'
  | 0, c, cur, s, x, s', _, e => by cases e
  | m + 1, c, cur, s, x, s', hn, e => by
    simp only [absScope] at e
    split at e
    · rename_i l s1 h1
      have h2 := absCode_fr hcf (absScope_fr hcf m) cur s _ s1 hn h1
      split at e
      · exact h2.trans (absScope_fr hcf m _ _ _ _ _ (h2.1 hn) e)
      · cases e; exact h2
    · exact absCode_fr hcf (absScope_fr hcf m) cur s x s' hn e
end Go.Proofs.YtkbdhjfjbkmkcaaGreat.Abs
