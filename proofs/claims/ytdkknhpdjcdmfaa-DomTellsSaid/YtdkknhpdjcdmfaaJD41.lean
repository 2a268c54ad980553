/- The abstract machine, step by step: a state in order stays as it is. -/
import Derived.Test.YtdkknhpdjcdmfaaJD33
set_option linter.unusedSimpArgs false
set_option linter.unusedVariables false
namespace Go.Proofs.Ytdkknhpdjcdmfaa.Abs
open Go Go.RowKit

def isObj : Option (Option AO) → Bool
  | some (some _) => true
  | _ => false
def keepL (h : Heap) (n0 m : Nat) : Leaf → Bool
  | .ptr id _ _ _ => decide (id < n0) || (decide (id < n0 + m) && isObj h[id]?)
  | .sl id _ _ _ _ => decide (id < n0) || (decide (id < n0 + m) && isObj h[id]?)
  | .map id => decide (id < n0) || (decide (id < n0 + m) && isObj h[id]?)
  | .fn _ caps => caps.all treeL
  | _ => true
def keepC (h : Heap) (n0 m : Nat) (cs : List Leaf) : Bool := cs.all (keepL h n0 m)
def keepR (h : Heap) (n0 m : Nat) (es : List (List Leaf)) : Bool := es.all (keepC h n0 m)
def keepV (h : Heap) (n0 m : Nat) : V → Bool
  | .one l => keepL h n0 m l
  | .agg cs => keepC h n0 m cs
  | .junk => true
  | .tup _ => false
def keepO (h : Heap) (n0 m : Nat) : Option AO → Bool
  | some (.row _ es) => keepR h n0 m es
  | some (.mp _) => false
  | none => true

def Canon (n0 : Nat) : Nat → Heap → List (Option Nat) → Prop
  | _, _, [] => True
  | p, o :: t, none :: L => o = none ∧ Canon n0 (p + 1) t L
  | p, o :: t, some id :: L => id = n0 + p ∧ o.isSome = true ∧ Canon n0 (p + 1) t L
  | _, [], _ :: _ => False

theorem Canon.len {n0 : Nat} : ∀ {p : Nat} {t : Heap} {L : List (Option Nat)}, Canon n0 p t L → L.length ≤ t.length
  | _, _, [], _ => Nat.zero_le _
  | p, o :: t, none :: L, h => by have := Canon.len h.2; simpa using this
  | p, o :: t, some id :: L, h => by have := Canon.len h.2.2; simpa using this
theorem Canon.at {n0 : Nat} : ∀ {p : Nat} {t : Heap} {L : List (Option Nat)}, Canon n0 p t L → ∀ (i : Nat) (o : Option Nat), L[i]? = some o → (o = none ∧ t[i]? = some none) ∨ (o = some (n0 + (p + i)) ∧ ∃ a, t[i]? = some (some a))
  | _, _, [], _, i, o, h => by simp at h
  | p, x :: t, none :: L, hc, i, o, h => by
    cases i with
    | zero => simp at h; subst h; exact .inl ⟨rfl, by rw [hc.1]; rfl⟩
    | succ i =>
      have := Canon.at hc.2 i o (by simpa using h)
      rw [show p + (i + 1) = p + 1 + i by omega]
      simpa using this
  | p, x :: t, some id :: L, hc, i, o, h => by
    cases i with
    | zero =>
      simp at h; subst h
      obtain ⟨a, ha⟩ := Option.isSome_iff_exists.1 hc.2.1
      exact .inr ⟨by rw [hc.1]; rfl, a, by rw [ha]; rfl⟩
    | succ i =>
      have := Canon.at hc.2.2 i o (by simpa using h)
      rw [show p + (i + 1) = p + 1 + i by omega]
      simpa using this

theorem Canon.place {n0 : Nat} : ∀ {p : Nat} {t : Heap} {L : List (Option Nat)}, Canon n0 p t L → ∀ (i : Nat), (∃ a, t[i]? = some (some a)) → i < L.length → placeAt (n0 + (p + i)) L p = some (p + i)
  | _, _, [], _, i, _, h => by simp at h
  | p, x :: t, none :: L, hc, i, ha, h => by
    unfold placeAt
    simp only
    cases i with
    | zero => obtain ⟨a, ha⟩ := ha; rw [hc.1] at ha; cases ha
    | succ i =>
      rw [show p + (i + 1) = p + 1 + i by omega]
      exact Canon.place hc.2 i (by simpa using ha) (by simpa using h)
  | p, x :: t, some id :: L, hc, i, ha, h => by
    unfold placeAt
    simp only
    cases i with
    | zero => rw [if_pos (by rw [hc.1]; rfl)]; rfl
    | succ i =>
      rw [if_neg (by rw [hc.1]; omega), show p + (i + 1) = p + 1 + i by omega]
      exact Canon.place hc.2.2 i (by simpa using ha) (by simpa using h)

theorem Canon.okL {n0 : Nat} : ∀ {p : Nat} {t : Heap} {L : List (Option Nat)}, Canon n0 p t L → okL n0 L = true ∧ ∀ id, some id ∈ L → n0 + p ≤ id
  | _, _, [], _ => ⟨rfl, fun id h => by simp at h⟩
  | p, x :: t, none :: L, hc => by
    obtain ⟨h1, h2⟩ := Canon.okL hc.2
    refine ⟨h1, fun id h => ?_⟩
    have := h2 id (by simpa using h)
    omega
  | p, x :: t, some k :: L, hc => by
    obtain ⟨h1, h2⟩ := Canon.okL hc.2.2
    have hk := hc.1
    refine ⟨?_, fun id h => ?_⟩
    · unfold Abs.okL
      have hn : L.contains (some k) = false := by
        rw [← Bool.not_eq_true, List.contains_iff_mem]
        intro hm
        have := h2 k hm
        omega
      rw [hn, h1]
      simp
      omega
    · rcases List.mem_cons.1 h with h | h
      · cases h; omega
      · have := h2 id h; omega

section
variable {h t : Heap} {L : List (Option Nat)}

def objAt (H : Heap) : Option Nat → Option AO
  | none => none
  | some id => match H[id]? with
    | some o => o
    | none => none

theorem canon_objs (hc : Canon h.length 0 t L) : L.map (objAt (h ++ t)) = t.take L.length := by
  apply List.ext_getElem?
  intro i
  rw [List.getElem?_map, List.getElem?_take]
  cases ho : L[i]? with
  | none =>
    have := List.getElem?_eq_none_iff.1 ho
    rw [if_neg (by omega)]; rfl
  | some o =>
    have hi := (List.getElem?_eq_some_iff.1 ho).1
    rw [if_pos hi]
    rcases hc.at i o ho with ⟨rfl, h2⟩ | ⟨rfl, a, h2⟩
    · rw [h2]; rfl
    · rw [h2]
      simp only [Option.map_some, objAt]
      rw [Nat.zero_add, List.getElem?_append_right (by omega), Nat.add_sub_cancel_left, h2]

variable (hc : Canon h.length 0 t L)
include hc

theorem keep_place {id : Nat} (h1 : h.length ≤ id) (h2 : id < h.length + L.length) (h3 : isObj (h ++ t)[id]? = true) : placeOf id L h.length = some id := by
  obtain ⟨i, rfl⟩ : ∃ i, id = h.length + i := ⟨id - h.length, by omega⟩
  have ha : ∃ a, t[i]? = some (some a) := by
    rw [List.getElem?_append_right (by omega), Nat.add_sub_cancel_left] at h3
    unfold isObj at h3
    split at h3
    · rename_i a ha; exact ⟨a, ha⟩
    · cases h3
  have := hc.place i ha (by omega)
  rw [Nat.zero_add] at this
  unfold placeOf
  rw [this]

theorem fzT_keep {l : Leaf} (hk : keepL (h ++ t) h.length L.length l = true) : fzT (h ++ t) h.length L l = some l := by
  have main : ∀ id, (decide (id < h.length) || (decide (id < h.length + L.length) && isObj (h ++ t)[id]?)) = true → id < h.length ∨ placeOf id L h.length = some id := by
    intro id e
    by_cases hlt : id < h.length
    · exact .inl hlt
    · simp [hlt] at e
      exact .inr (keep_place hc (by omega) e.1 e.2)
  cases l with
  | ptr id sz i off =>
    rw [fzT_ptr]
    rcases main id hk with h1 | h1
    · rw [if_neg (by omega)]
    · split
      · rw [h1]; rfl
      · rfl
  | sl id s sz off len =>
    rw [fzT_sl]
    rcases main id hk with h1 | h1
    · rw [if_neg (by omega)]
    · split
      · rw [h1]; rfl
      · rfl
  | map id =>
    rw [fzT_map]
    rcases main id hk with h1 | h1
    · rw [if_neg (by omega)]
    · split
      · rw [h1]; rfl
      · rfl
  | fn f caps =>
    simp only [keepL] at hk
    show (mapO (fzR (h ++ t) h.length L) caps).map (Leaf.fn f) = _
    rw [mapO_id fun x hx => ?_]
    · rfl
    · have hx' := List.all_eq_true.1 hk x hx
      have : fzR (h ++ t) h.length L x = some x := by
        cases x <;> first | rfl | (simp [treeL, plainL] at hx'; done)
      exact this
  | _ => rfl

theorem keepC_ok {cs : List Leaf} (hk : keepC (h ++ t) h.length L.length cs = true) : mapO (fzT (h ++ t) h.length L) cs = some cs := mapO_id fun x hx => fzT_keep hc (List.all_eq_true.1 hk x hx)
theorem keepR_ok {es : List (List Leaf)} (hk : keepR (h ++ t) h.length L.length es = true) : mapO (mapO (fzT (h ++ t) h.length L)) es = some es := mapO_id fun x hx => keepC_ok hc (List.all_eq_true.1 hk x hx)
theorem keepV_ok {v : V} (hk : keepV (h ++ t) h.length L.length v = true) : fzV (h ++ t) h.length L v = some v := by
  cases v with
  | one l => show (fzT _ _ _ l).map V.one = _; rw [fzT_keep hc hk]; rfl
  | agg cs => show (mapO (fzT _ _ _) cs).map V.agg = _; rw [keepC_ok hc hk]; rfl
  | junk => rfl
  | tup vs => cases hk

variable (hr : ∀ i, i < L.length → ∀ o, t[i]? = some o → keepO (h ++ t) h.length L.length o = true)
include hr

theorem keep_row {id z : Nat} {es : List (List Leaf)} (hm : some id ∈ L) (e : (h ++ t)[id]? = some (some (.row z es))) : keepR (h ++ t) h.length L.length es = true := by
  obtain ⟨i, hi⟩ := List.getElem?_of_mem hm
  have hl := (List.getElem?_eq_some_iff.1 hi).1
  rcases hc.at i _ hi with ⟨h1, _⟩ | ⟨h1, a, h2⟩
  · cases h1
  · cases h1
    rw [Nat.zero_add, List.getElem?_append_right (by omega), Nat.add_sub_cancel_left] at e
    exact hr i hl _ e
theorem objOf_keep {o : Option Nat} (hm : o ∈ L) : objOf (h ++ t) h.length L o = some (objAt (h ++ t) o) := by
  cases o with
  | none => rfl
  | some id =>
    obtain ⟨i, hi⟩ := List.getElem?_of_mem hm
    have hl := (List.getElem?_eq_some_iff.1 hi).1
    rcases hc.at i _ hi with ⟨h1, _⟩ | ⟨h1, a, h2⟩
    · cases h1
    · cases h1
      have e : (h ++ t)[h.length + (0 + i)]? = some (some a) := by
        rw [Nat.zero_add, List.getElem?_append_right (by omega), Nat.add_sub_cancel_left, h2]
      have hk := hr i hl _ h2
      simp only [objOf, objAt, e]
      cases a with
      | mp es => cases hk
      | row z es =>
        simp only [fzO]
        rw [keepR_ok hc hk]
        rfl

def noNil : List Nat → List Leaf → Bool
  | [], _ => true
  | _ :: _, [] => true
  | k :: ks, c :: cs => (match k, c with | _ + 1, .nils => false | _, _ => true) && noNil ks cs

theorem newCells_keep : ∀ (ks : List Nat) (cs : List Leaf) (p : Nat), keepC (h ++ t) h.length L.length cs = true → noNil ks cs = true → (ks ≠ [] → cs.length ≤ ks.length) → (∀ o, o ∈ cellIds h.length ks cs → o ∈ L) →
    newCells (h ++ t) h.length L p ks cs = some (cs, (cellIds h.length ks cs).map (objAt (h ++ t)))
  | [], cs, p, hk, _, _, _ => by
    unfold newCells
    rw [keepC_ok hc hk]
    rfl
  | k :: ks, [], p, _, _, _, _ => by unfold newCells; rfl
  | 0 :: ks, c :: cs, p, hk, hn, hl, hm => by
    unfold newCells
    simp only
    simp [keepC] at hk
    rw [fzT_keep hc hk.1]
    simp only
    have hl' := hl (by simp)
    simp at hl'
    cases hks : ks with
    | nil =>
      subst hks
      have : cs = [] := List.eq_nil_of_length_eq_zero (by simpa using hl')
      subst this
      rw [newCells_keep [] [] p rfl rfl (by simp) (by simp [cellIds])]
      rfl
    | cons k' ks' =>
      rw [← hks, newCells_keep ks cs p (by simpa [keepC] using hk.2) (by simpa [noNil] using hn) (fun _ => hl') hm]
      rfl
  | (e + 1) :: ks, c :: cs, p, hk, hn, hl, hm => by
    simp [keepC] at hk
    have hl' := hl (by simp)
    simp at hl'
    have ih : newCells (h ++ t) h.length L (p + 1) ks cs = some (cs, (cellIds h.length ks cs).map (objAt (h ++ t))) := by
      cases hks : ks with
      | nil =>
        subst hks
        have : cs = [] := List.eq_nil_of_length_eq_zero (by simpa using hl')
        subst this
        rw [newCells_keep [] [] (p + 1) rfl rfl (by simp) (by simp [cellIds])]
      | cons k' ks' =>
        rw [← hks]
        refine newCells_keep ks cs (p + 1) (by simpa [keepC] using hk.2) ?_ (fun _ => hl') fun o ho => hm o (by simp [cellIds, ho])
        simp [noNil] at hn
        exact hn.2
    unfold newCells
    simp only
    split
    · simp [noNil] at hn
    · rw [fzT_keep hc hk.1]
      simp only
      rw [objOf_keep hc hr (hm _ (by simp [cellIds]))]
      simp only
      rw [ih]
      simp [cellIds]
theorem newRows_keep {ks : List Nat} : ∀ (es : List (List Leaf)) (p : Nat), keepR (h ++ t) h.length L.length es = true → (∀ cs, cs ∈ es → noNil ks cs = true ∧ (ks ≠ [] → cs.length ≤ ks.length)) → (∀ o, o ∈ es.flatMap (cellIds h.length ks) → o ∈ L) →
    newRows (h ++ t) h.length L ks p es = some (es, (es.flatMap (cellIds h.length ks)).map (objAt (h ++ t)))
  | [], p, _, _, _ => rfl
  | cs :: es, p, hk, hn, hm => by
    simp [keepR] at hk
    unfold newRows
    rw [newCells_keep hc hr ks cs p hk.1 (hn cs (by simp)).1 (hn cs (by simp)).2 fun o ho => hm o (by simp [ho])]
    simp only
    rw [newRows_keep es _ (by simpa [keepR] using hk.2) (fun x hx => hn x (by simp [hx])) fun o ho => hm o (by rw [List.flatMap_cons]; exact List.mem_append_right _ ho)]
    simp

def noNilO (H : Heap) (ks : List Nat) : Option Nat → Prop
  | none => True
  | some id => match ks with
    | [] => True
    | _ :: _ => ∃ z es, H[id]? = some (some (.row z es)) ∧ ∀ cs, cs ∈ es → noNil ks cs = true ∧ cs.length ≤ ks.length
theorem newRoot_keep {ks : List Nat} {p : Nat} {x : Option Nat} (hm : ∀ o, o ∈ x :: insideIds (h ++ t) h.length ks x → o ∈ L) (hn : noNilO (h ++ t) ks x) :
    newRoot (h ++ t) h.length L p ks x = some ((x :: insideIds (h ++ t) h.length ks x).map (objAt (h ++ t))) := by
  cases x with
  | none =>
    have : insideIds (h ++ t) h.length ks none = [] := by unfold insideIds; split <;> rfl
    rw [this]; rfl
  | some id =>
    cases ks with
    | nil =>
      unfold newRoot
      simp only
      rw [objOf_keep hc hr (hm _ (by simp))]
      rfl
    | cons k ks =>
      obtain ⟨z, es, e, hn⟩ := hn
      have hi : insideIds (h ++ t) h.length (k :: ks) (some id) = es.flatMap (cellIds h.length (k :: ks)) := by simp only [insideIds, e]
      unfold newRoot
      simp only [e]
      rw [newRows_keep hc hr es (p + 1) (keep_row hc hr (hm _ (by simp)) e) (fun cs hcs => ⟨(hn cs hcs).1, fun _ => (hn cs hcs).2⟩) fun o ho => hm o (by rw [hi]; simp [ho])]
      rw [hi]
      simp [objAt, e]

/-! The same, of slices whose elements hold slices. -/
def noNil2 (H : Heap) (n0 : Nat) : List (Nat × List Nat) → List Leaf → Prop
  | [], _ => True
  | _ :: _, [] => True
  | k :: ks, c :: cs => (match k.1 with | 0 => True | _ + 1 => c ≠ .nils ∧ noNilO H k.2 (ownId n0 c)) ∧ noNil2 H n0 ks cs
theorem newCells2_keep : ∀ (ks : List (Nat × List Nat)) (cs : List Leaf) (p : Nat), keepC (h ++ t) h.length L.length cs = true → noNil2 (h ++ t) h.length ks cs → (ks ≠ [] → cs.length ≤ ks.length) → (∀ o, o ∈ cellIds2 (h ++ t) h.length ks cs → o ∈ L) →
    newCells2 (h ++ t) h.length L p ks cs = some (cs, (cellIds2 (h ++ t) h.length ks cs).map (objAt (h ++ t)))
  | [], cs, p, hk, _, _, _ => by
    unfold newCells2
    rw [keepC_ok hc hk]
    rfl
  | k :: ks, [], p, _, _, _, _ => by unfold newCells2; rfl
  | (0, k2) :: ks, c :: cs, p, hk, hn, hl, hm => by
    unfold newCells2
    simp only
    simp [keepC] at hk
    rw [fzT_keep hc hk.1]
    simp only
    have hl' := hl (by simp)
    simp at hl'
    cases hks : ks with
    | nil =>
      subst hks
      have : cs = [] := List.eq_nil_of_length_eq_zero (by simpa using hl')
      subst this
      rw [newCells2_keep [] [] p rfl trivial (by simp) (by simp [cellIds2])]
      rfl
    | cons k' ks' =>
      rw [← hks, newCells2_keep ks cs p (by simpa [keepC] using hk.2) hn.2 (fun _ => hl') hm]
      rfl
  | (e + 1, k2) :: ks, c :: cs, p, hk, hn, hl, hm => by
    simp [keepC] at hk
    have hl' := hl (by simp)
    simp at hl'
    have ih : ∀ p, newCells2 (h ++ t) h.length L p ks cs = some (cs, (cellIds2 (h ++ t) h.length ks cs).map (objAt (h ++ t))) := by
      intro p
      cases hks : ks with
      | nil =>
        subst hks
        have : cs = [] := List.eq_nil_of_length_eq_zero (by simpa using hl')
        subst this
        rw [newCells2_keep [] [] p rfl trivial (by simp) (by simp [cellIds2])]
      | cons k' ks' =>
        rw [← hks]
        exact newCells2_keep ks cs p (by simpa [keepC] using hk.2) hn.2 (fun _ => hl') fun o ho => hm o (by simp [cellIds2, ho])
    have hn1 := hn.1
    simp only at hn1
    unfold newCells2
    simp only
    split
    · exact absurd rfl hn1.1
    · rw [fzT_keep hc hk.1]
      simp only
      rw [newRoot_keep hc hr (fun o ho => hm o (by simp only [cellIds2]; exact List.mem_append_left _ ho)) hn1.2]
      simp only
      rw [ih]
      simp [cellIds2]
theorem newRows2_keep {ks : List (Nat × List Nat)} : ∀ (es : List (List Leaf)) (p : Nat), keepR (h ++ t) h.length L.length es = true → (∀ cs, cs ∈ es → noNil2 (h ++ t) h.length ks cs ∧ (ks ≠ [] → cs.length ≤ ks.length)) → (∀ o, o ∈ es.flatMap (cellIds2 (h ++ t) h.length ks) → o ∈ L) →
    newRows2 (h ++ t) h.length L ks p es = some (es, (es.flatMap (cellIds2 (h ++ t) h.length ks)).map (objAt (h ++ t)))
  | [], p, _, _, _ => rfl
  | cs :: es, p, hk, hn, hm => by
    simp [keepR] at hk
    unfold newRows2
    rw [newCells2_keep hc hr ks cs p hk.1 (hn cs (by simp)).1 (hn cs (by simp)).2 fun o ho => hm o (by simp [ho])]
    simp only
    rw [newRows2_keep es _ (by simpa [keepR] using hk.2) (fun x hx => hn x (by simp [hx])) fun o ho => hm o (by rw [List.flatMap_cons]; exact List.mem_append_right _ ho)]
    simp
def noNilO2 (H : Heap) (n0 : Nat) (ks : List (Nat × List Nat)) : Option Nat → Prop
  | none => True
  | some id => ∃ z es, H[id]? = some (some (.row z es)) ∧ ∀ cs, cs ∈ es → noNil2 H n0 ks cs ∧ (ks ≠ [] → cs.length ≤ ks.length)
theorem newRoot2_keep {ks : List (Nat × List Nat)} {p : Nat} {x : Option Nat} (hm : ∀ o, o ∈ x :: insideIds2 (h ++ t) h.length ks x → o ∈ L) (hn : noNilO2 (h ++ t) h.length ks x) :
    newRoot2 (h ++ t) h.length L p ks x = some ((x :: insideIds2 (h ++ t) h.length ks x).map (objAt (h ++ t))) := by
  cases x with
  | none => rfl
  | some id =>
    obtain ⟨z, es, e, hn⟩ := hn
    have hi : insideIds2 (h ++ t) h.length ks (some id) = es.flatMap (cellIds2 (h ++ t) h.length ks) := by simp only [insideIds2, e]
    unfold newRoot2
    simp only [e]
    rw [newRows2_keep hc hr es (p + 1) (keep_row hc hr (hm _ (by simp)) e) hn fun o ho => hm o (by rw [hi]; simp [ho])]
    rw [hi]
    simp [objAt, e]

def KdOK (H : Heap) (n0 : Nat) (v : V) : Kd → Prop
  | .p => True
  | .m => True
  | .s _ ks => v ≠ .one .nils ∧ noNilO H ks (rootOf n0 v)
  | .b ks => noNilO H ks (rootOf n0 v)
  | .b2 kss => noNilO2 H n0 kss (rootOf n0 v)
  | .r _ => True
  | .x _ => v = .junk
  | .it _ => v = .junk
theorem kdNew_keep {v : V} {kd : Kd} {p : Nat} (hk : keepV (h ++ t) h.length L.length v = true) (ho : KdOK (h ++ t) h.length v kd) (hm : ∀ o, o ∈ kdIds (h ++ t) h.length v kd → o ∈ L) :
    kdNew (h ++ t) h.length L p v kd = some (v, (kdIds (h ++ t) h.length v kd).map (objAt (h ++ t))) := by
  cases kd with
  | p => simp only [kdNew, keepV_ok hc hk, kdIds]; rfl
  | r id => simp only [kdNew, keepV_ok hc hk, kdIds]; rfl
  | x id => rw [show v = .junk from ho]; rfl
  | it b => rw [show v = .junk from ho]; rfl
  | m =>
    have hm' : ∀ o, o ∈ rootOf h.length v :: insideIds (h ++ t) h.length [] (rootOf h.length v) → o ∈ L := fun o ho => hm o (by simpa [kdIds, insideIds] using ho)
    have := newRoot_keep hc hr (p := p) hm' (by cases rootOf h.length v <;> trivial)
    simp only [kdNew, keepV_ok hc hk, this, kdIds]
    rfl
  | s e ks =>
    have := newRoot_keep hc hr (p := p) hm ho.2
    simp only [kdNew]
    split
    · exact absurd rfl ho.1
    · simp only [keepV_ok hc hk, this, kdIds]
  | b ks =>
    have := newRoot_keep hc hr (p := p) hm ho
    simp only [kdNew, keepV_ok hc hk, this, kdIds]
  | b2 kss =>
    have := newRoot2_keep hc hr (p := p) hm ho
    simp only [kdNew, keepV_ok hc hk, this, kdIds]
theorem kdAll_keep {T : Tmps} : ∀ (K : List (Nat × Kd)) (p : Nat), (∀ e, e ∈ K → keepV (h ++ t) h.length L.length (tget T e.1) = true ∧ KdOK (h ++ t) h.length (tget T e.1) e.2) → (∀ o, o ∈ kdL (h ++ t) h.length T K → o ∈ L) →
    kdAll (h ++ t) h.length L T p K = some (K.map fun e => (e.1, tget T e.1), (kdL (h ++ t) h.length T K).map (objAt (h ++ t)))
  | [], p, _, _ => rfl
  | e :: K, p, hk, hm => by
    unfold kdAll
    rw [kdNew_keep hc hr (hk e (by simp)).1 (hk e (by simp)).2 fun o ho => hm o (by simp only [kdL]; exact List.mem_append_left _ ho)]
    simp only
    rw [kdAll_keep K _ (fun x hx => hk x (by simp [hx])) fun o ho => hm o (by simp only [kdL]; exact List.mem_append_right _ ho)]
    simp [kdL]
end

def KeepK (H : Heap) (n0 m : Nat) (T : Tmps) : List (Nat × Kd) → Prop
  | [] => True
  | e :: K => (keepV H n0 m (tget T e.1) = true ∧ KdOK H n0 (tget T e.1) e.2) ∧ KeepK H n0 m T K
theorem KeepK.each {H : Heap} {n0 m : Nat} {T : Tmps} : ∀ {K : List (Nat × Kd)}, KeepK H n0 m T K → ∀ e, e ∈ K → keepV H n0 m (tget T e.1) = true ∧ KdOK H n0 (tget T e.1) e.2
  | [], _, e, he => by simp at he
  | x :: K, h, e, he => by
    rcases List.mem_cons.1 he with rfl | he
    · exact h.1
    · exact h.2.each e he
def KeepT (H : Heap) (n0 m : Nat) : Nat → Heap → Prop
  | 0, _ => True
  | _ + 1, [] => True
  | k + 1, o :: t => keepO H n0 m o = true ∧ KeepT H n0 m k t
theorem KeepT.each {H : Heap} {n0 m : Nat} : ∀ {k : Nat} {t : Heap}, KeepT H n0 m k t → ∀ i, i < k → ∀ o, t[i]? = some o → keepO H n0 m o = true
  | 0, _, _, i, hi, _, _ => by omega
  | k + 1, [], _, i, _, o, e => by simp at e
  | k + 1, x :: t, h, i, hi, o, e => by
    cases i with
    | zero => simp at e; subst e; exact h.1
    | succ i => exact h.2.each i (by omega) o (by simpa using e)

theorem tidy_keep {h t : Heap} {T : Tmps} {ws : List Nat} {K : List (Nat × Kd)} {L : List (Option Nat)} (hL : kdL (h ++ t) h.length T K = L) (hc : Canon h.length 0 t L) (hk : KeepK (h ++ t) h.length L.length T K) (ht : KeepT (h ++ t) h.length L.length L.length t) (hw : wsOf h.length ws = []) :
    tidy h.length K ⟨T, h ++ t, ws⟩ = ⟨K.map fun e => (e.1, tget T e.1), h ++ t.take L.length, []⟩ := by
  have hr : ∀ i, i < L.length → ∀ o, t[i]? = some o → keepO (h ++ t) h.length L.length o = true := fun i hi o e => ht.each i hi o e
  have h1 := kdAll_keep hc hr K 0 hk.each (fun o ho => by rw [hL] at ho; exact ho)
  have h2 := hc.okL.1
  have h3 := canon_objs hc
  unfold tidy tidyO
  simp only [hL]
  rw [h2, h1, hw]
  simp only [if_true, hL, h3, fzH]
  rw [List.take_left']
  rfl
end Go.Proofs.Ytdkknhpdjcdmfaa.Abs
