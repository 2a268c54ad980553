/- The abstract machine: regions that draw their order. -/
import Derived.Test.YtkbdhjfjbkmkcaaGreatJT20
set_option linter.unusedSimpArgs false
set_option linter.unusedVariables false
namespace Go.Proofs.YtkbdhjfjbkmkcaaGreat.Abs
open Go Go.RowKit

def runE {α : Type} (X : Nat → Bool) : List (Nat → α → α) → Nat → Nat → α → α
  | [], _, _, o => o
  | e :: es, k, id, o => runE X es (k + 1) id (if X k then e id o else o)

theorem runE_rel {α : Type} {R : α → α → Prop} {id : Nat} {X Y : Nat → Bool} (ht : ∀ a b c, R a b → R b c → R a c) (hs : ∀ a b, R a b → R b a) : ∀ (es : List (Nat → α → α)) (k : Nat) (a b : α),
    (∀ j e, es[j]? = some e → (∀ a b, R a b → R (e id a) (e id b)) ∧ (X (k + j) ≠ Y (k + j) → ∀ a, R (e id a) a)) → R a b → R (runE X es k id a) (runE Y es k id b)
  | [], k, a, b, _, h => h
  | e :: es, k, a, b, h, hab => by
    refine runE_rel ht hs es (k + 1) _ _ (fun j e' he => by have := h (j + 1) e' (by simpa using he); rw [show k + 1 + j = k + (j + 1) by omega]; exact this) ?_
    obtain ⟨h1, h2⟩ := h 0 e rfl
    rw [Nat.add_zero] at h2
    cases hx : X k <;> cases hy : Y k <;> rw [hx, hy] at h2 <;> simp only [Bool.false_eq_true, if_false, if_true]
    · exact hab
    · exact ht _ _ _ hab (hs _ _ (h2 nofun b))
    · exact ht _ _ _ (h2 nofun a) hab
    · exact h1 a b hab

theorem runE_congr {α : Type} {id : Nat} {X Y : Nat → Bool} : ∀ (es : List (Nat → α → α)) (k : Nat) (a : α), (∀ j, j < es.length → X (k + j) = Y (k + j)) → runE X es k id a = runE Y es k id a
  | [], k, a, _ => rfl
  | e :: es, k, a, h => by
    simp only [runE]
    have h0 := h 0 (by simp)
    rw [Nat.add_zero] at h0
    rw [h0]
    exact runE_congr es (k + 1) _ fun j hj => by have := h (j + 1) (by simpa using hj); rwa [show k + 1 + j = k + (j + 1) by omega]

theorem runE_none {α : Type} {id : Nat} {X : Nat → Bool} : ∀ (es : List (Nat → α → α)) (k : Nat) (a : α), (∀ j, j < es.length → X (k + j) = false) → runE X es k id a = a
  | [], k, a, _ => rfl
  | e :: es, k, a, h => by
    simp only [runE]
    have h0 := h 0 (by simp)
    rw [Nat.add_zero] at h0
    rw [h0]
    exact runE_none es (k + 1) _ fun j hj => by have := h (j + 1) (by simpa using hj); rwa [show k + 1 + j = k + (j + 1) by omega]

theorem runE_comm {α : Type} {id : Nat} {X : Nat → Bool} {e : Nat → α → α} : ∀ (es : List (Nat → α → α)) (k : Nat) (a : α),
    (∀ j e', es[j]? = some e' → X (k + j) = true → ∀ a, e' id (e id a) = e id (e' id a)) → runE X es k id (e id a) = e id (runE X es k id a)
  | [], k, a, _ => rfl
  | e' :: es, k, a, h => by
    simp only [runE]
    have h' : ∀ j e'', es[j]? = some e'' → X (k + 1 + j) = true → ∀ a, e'' id (e id a) = e id (e'' id a) := fun j e'' he hx => h (j + 1) e'' (by simpa using he) (by rwa [show k + (j + 1) = k + 1 + j by omega])
    cases hx : X k
    · simp only [Bool.false_eq_true, if_false]; exact runE_comm es (k + 1) _ h'
    · simp only [if_true]
      rw [h 0 e' rfl (by simpa using hx)]
      exact runE_comm es (k + 1) _ h'

theorem runE_insert {α : Type} {id i : Nat} {X : Nat → Bool} (hX : X i = false) {e : Nat → α → α} : ∀ (es : List (Nat → α → α)) (k : Nat) (a : α), k ≤ i → es[i - k]? = some e →
    (∀ j e', es[j]? = some e' → i < k + j → X (k + j) = true → ∀ a, e' id (e id a) = e id (e' id a)) → runE (fun n => X n || n == i) es k id a = e id (runE X es k id a)
  | [], k, a, _, he, _ => by simp at he
  | e0 :: es, k, a, hk, he, h => by
    have h' : ∀ j e'', es[j]? = some e'' → i < k + 1 + j → X (k + 1 + j) = true → ∀ a, e'' id (e id a) = e id (e'' id a) := fun j e'' he hi hx => h (j + 1) e'' (by simpa using he) (by omega) (by rwa [show k + (j + 1) = k + 1 + j by omega])
    simp only [runE]
    by_cases hki : k = i
    · subst hki
      rw [Nat.sub_self] at he
      have : e0 = e := by simpa using he
      subst this
      simp only [hX, beq_self_eq_true, Bool.or_true, if_true, Bool.false_eq_true, if_false]
      rw [runE_congr (Y := X) es (k + 1) _ fun j hj => by
        have : (k + 1 + j == k) = false := by simp; omega
        simp [this]]
      exact runE_comm es (k + 1) a fun j e' he' hx => h' j e' he' (by omega) hx
    · have hf : (k == i) = false := by simp [hki]
      simp only [hf, Bool.or_false]
      exact runE_insert hX es (k + 1) _ (by omega) (by rw [show i - k = (i - (k + 1)) + 1 by omega, List.getElem?_cons_succ] at he; exact he) h'

theorem appE_appE (e e' : Eff) (H : Heap) : appE e' 0 (appE e 0 H) = appE (fun id o => e' id (e id o)) 0 H := by
  apply List.ext_getElem?
  intro k
  simp only [appE_get, Nat.zero_add, Option.map_map]
  rfl

theorem appE_congr {e e' : Eff} {H : Heap} (h : ∀ id o, e id o = e' id o) : appE e 0 H = appE e' 0 H := by
  rw [show e = e' from funext fun id => funext fun o => h id o]

/-! Same shape. -/

def SameShape (a b : Option AO) : Prop := a = b ∨ ∃ esz es es', a = some (.row esz es) ∧ b = some (.row esz es') ∧ es.map List.length = es'.map List.length

theorem SameShape.symm {a b : Option AO} (h : SameShape a b) : SameShape b a := by
  rcases h with h | ⟨esz, es, es', h1, h2, h3⟩
  · exact .inl h.symm
  · exact .inr ⟨esz, es', es, h2, h1, h3.symm⟩

theorem SameShape.trans {a b c : Option AO} (h : SameShape a b) (k : SameShape b c) : SameShape a c := by
  rcases h with rfl | ⟨esz, es, es', h1, h2, h3⟩
  · exact k
  · rcases k with rfl | ⟨esz', fs, fs', k1, k2, k3⟩
    · exact .inr ⟨esz, es, es', h1, h2, h3⟩
    · rw [h2] at k1; cases k1
      exact .inr ⟨esz, es, fs', h1, k2, h3.trans k3⟩

def putElem (e off : Nat) (new : List Leaf) (elems : List (List Leaf)) : List (List Leaf) :=
  match elems[e]? with
  | some cs => if off + new.length ≤ cs.length then elems.set e (putCells cs off new) else elems
  | none => elems

theorem putElem_shape (e off : Nat) (new : List Leaf) (elems : List (List Leaf)) : (putElem e off new elems).map List.length = elems.map List.length := by
  unfold putElem
  split
  · rename_i cs hc
    split
    · rename_i hf
      rw [List.map_set, putCells_length hf]
      apply List.ext_getElem?
      intro k
      rw [List.getElem?_set]
      split
      · rename_i hk; subst hk
        split
        · rw [List.getElem?_map, hc]; rfl
        · rename_i hl
          rw [List.getElem?_eq_none (by simpa using hl)]
      · rfl
    · rfl
  · rfl

theorem cellE_row (id e off : Nat) (new : List Leaf) (esz : Nat) (elems : List (List Leaf)) : cellE id e off new id (some (.row esz elems)) = some (.row esz (putElem e off new elems)) := by
  simp only [cellE, if_true, putElem]
  rfl

theorem cellE_shape (id e off : Nat) (new : List Leaf) (k : Nat) (o : Option AO) : SameShape (cellE id e off new k o) o := by
  by_cases hk : k = id
  · subst hk
    cases o with
    | none => exact .inl (by simp [cellE])
    | some o =>
      cases o with
      | row esz elems => exact .inr ⟨esz, _, _, cellE_row .., rfl, putElem_shape ..⟩
      | mp es => exact .inl (by simp [cellE])
  · exact .inl (by simp [cellE, hk])

theorem Shape.of {H H' : Heap} {id sz e n : Nat} (h : Shape H id sz e n) (hs : ∃ o o', H[id]? = some o ∧ H'[id]? = some o' ∧ SameShape o o') : Shape H' id sz e n := by
  obtain ⟨esz, elems, cs, h1, h2, h3, h4⟩ := h
  obtain ⟨o, o', k1, k2, k3⟩ := hs
  rw [h1] at k1; cases k1
  rcases k3 with rfl | ⟨esz', es, es', h5, h6, h7⟩
  · exact ⟨esz, elems, cs, k2, h2, h3, h4⟩
  · cases h5
    have hl : es'.length = elems.length := by simpa using (congrArg List.length h7).symm
    have hc : (es'.map List.length)[e]? = some cs.length := by rw [← h7, List.getElem?_map, h3]; rfl
    rw [List.getElem?_map] at hc
    obtain ⟨cs', c1, c2⟩ := Option.map_eq_some_iff.1 hc
    exact ⟨_, es', cs', by rw [k2, h6], by rw [hl, h2], c1, by rw [c2]; exact h4⟩

theorem putCells_comm {cs a b : List Leaf} {o p : Nat} (ha : o + a.length ≤ cs.length) (hb : p + b.length ≤ cs.length) (hd : o + a.length ≤ p ∨ p + b.length ≤ o) : putCells (putCells cs o a) p b = putCells (putCells cs p b) o a := by
  have key : ∀ (cs new : List Leaf) (off k : Nat), off + new.length ≤ cs.length → (putCells cs off new)[k]? = if k < off then cs[k]? else if k < off + new.length then new[k - off]? else cs[k]? := by
    intro cs new off k hl
    unfold putCells
    rw [List.append_assoc]
    by_cases h1 : k < off
    · rw [if_pos h1, List.getElem?_append_left (by simp; omega), List.getElem?_take, if_pos h1]
    · rw [if_neg h1, List.getElem?_append_right (by simp; omega)]
      simp only [List.length_take, Nat.min_eq_left (show off ≤ cs.length by omega)]
      by_cases h2 : k < off + new.length
      · rw [if_pos h2, List.getElem?_append_left (by omega)]
      · rw [if_neg h2, List.getElem?_append_right (by omega), List.getElem?_drop]
        congr 1; omega
  apply List.ext_getElem?
  intro k
  rw [key _ _ _ _ (by rw [putCells_length ha]; exact hb), key _ _ _ _ ha, key _ _ _ _ (by rw [putCells_length hb]; exact ha), key _ _ _ _ hb]
  by_cases h1 : k < p <;> by_cases h2 : k < p + b.length <;> by_cases h3 : k < o <;> by_cases h4 : k < o + a.length <;> simp only [h1, h2, h3, h4, if_true, if_false] <;> omega

theorem putElem_fit {e off : Nat} {new cs : List Leaf} {elems : List (List Leaf)} (hc : elems[e]? = some cs) (h : off + new.length ≤ cs.length) : putElem e off new elems = elems.set e (putCells cs off new) := by
  simp only [putElem, hc, if_pos h]

theorem putElem_not {e off : Nat} {new cs : List Leaf} {elems : List (List Leaf)} (hc : elems[e]? = some cs) (h : ¬ off + new.length ≤ cs.length) : putElem e off new elems = elems := by
  simp only [putElem, hc, if_neg h]

theorem putElem_comm {e f o p : Nat} {a b : List Leaf} (hd : e ≠ f ∨ o + a.length ≤ p ∨ p + b.length ≤ o) (elems : List (List Leaf)) : putElem f p b (putElem e o a elems) = putElem e o a (putElem f p b elems) := by
  by_cases hef : e = f
  · subst hef
    have hd' : o + a.length ≤ p ∨ p + b.length ≤ o := by rcases hd with h | h; exact (h rfl).elim; exact h
    cases hc : elems[e]? with
    | none => simp [putElem, hc]
    | some cs =>
      have hlt : e < elems.length := (List.getElem?_eq_some_iff.1 hc).1
      have hs : ∀ x : List Leaf, (elems.set e x)[e]? = some x := fun x => by simp [List.getElem?_set, hlt]
      by_cases ha : o + a.length ≤ cs.length <;> by_cases hb : p + b.length ≤ cs.length
      · rw [putElem_fit hc ha, putElem_fit hc hb, putElem_fit (hs _) (by rw [putCells_length ha]; exact hb), putElem_fit (hs _) (by rw [putCells_length hb]; exact ha), putCells_comm ha hb hd', List.set_set, List.set_set]
      · rw [putElem_fit hc ha, putElem_not hc hb, putElem_not (hs _) (by rw [putCells_length ha]; exact hb), putElem_fit hc ha]
      · rw [putElem_not hc ha, putElem_fit hc hb, putElem_not (hs _) (by rw [putCells_length hb]; exact ha)]
      · rw [putElem_not hc ha, putElem_not hc hb, putElem_not hc ha]
  · have ge : ∀ (x : List Leaf) (q : Nat), (putElem f q x elems)[e]? = elems[e]? := by
      intro x q; unfold putElem; split
      · split
        · rw [List.getElem?_set_ne (Ne.symm hef)]
        · rfl
      · rfl
    have gf : ∀ (x : List Leaf) (q : Nat), (putElem e q x elems)[f]? = elems[f]? := by
      intro x q; unfold putElem; split
      · split
        · rw [List.getElem?_set_ne hef]
        · rfl
      · rfl
    have no : ∀ {g q : Nat} {x : List Leaf} {l : List (List Leaf)}, l[g]? = none → putElem g q x l = l := fun h => by simp only [putElem, h]
    have gf' := gf a o
    have ge' := ge b p
    cases he : elems[e]? with
    | none => rw [no he]; rw [he] at ge'; rw [no ge']
    | some cs =>
      rw [he] at ge'
      cases hf : elems[f]? with
      | none => rw [no hf]; rw [hf] at gf'; rw [no gf']
      | some ds =>
        rw [hf] at gf'
        by_cases ha : o + a.length ≤ cs.length <;> by_cases hb : p + b.length ≤ ds.length
        · rw [putElem_fit gf' hb, putElem_fit ge' ha, putElem_fit he ha, putElem_fit hf hb, List.set_comm _ _ hef]
        · rw [putElem_not gf' hb, putElem_fit ge' ha, putElem_fit he ha, putElem_not hf hb]
        · rw [putElem_fit gf' hb, putElem_not ge' ha, putElem_not he ha, putElem_fit hf hb]
        · rw [putElem_not gf' hb, putElem_not ge' ha, putElem_not he ha, putElem_not hf hb]

theorem cellE_comm {i j e f o p : Nat} {a b : List Leaf} (hd : i ≠ j ∨ e ≠ f ∨ o + a.length ≤ p ∨ p + b.length ≤ o) (k : Nat) (x : Option AO) : cellE j f p b k (cellE i e o a k x) = cellE i e o a k (cellE j f p b k x) := by
  by_cases hij : i = j
  · subst hij
    have hd' : e ≠ f ∨ o + a.length ≤ p ∨ p + b.length ≤ o := by rcases hd with h | h; exact (h rfl).elim; exact h
    by_cases hk : k = i
    · subst hk
      cases x with
      | none => simp [cellE]
      | some x =>
        cases x with
        | row esz elems => simp only [cellE_row]; rw [putElem_comm hd']
        | mp es => simp [cellE]
    · simp [cellE, hk]
  · by_cases hk : k = i
    · subst hk; simp [cellE, hij]
    · simp [cellE, hk]
end Go.Proofs.YtkbdhjfjbkmkcaaGreat.Abs
