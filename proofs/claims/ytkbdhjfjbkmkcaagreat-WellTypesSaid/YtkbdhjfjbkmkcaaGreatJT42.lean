/- The abstract machine, step by step: a state in order stays as it is. -/
import Derived.Test.YtkbdhjfjbkmkcaaGreatJT32
set_option linter.unusedSimpArgs false
set_option linter.unusedVariables false
namespace Go.Proofs.YtkbdhjfjbkmkcaaGreat.Abs
open Go Go.RowKit

def isObj : Option (Option AO) → Bool
  | some (some _) => true
  | _ => false
def keepL (h : Heap) (n0 m : Nat) : Leaf → Bool
  | .ptr id _ _ _ => decide (id < n0) || (decide (id < n0 + m) && isObj h[id]?)
  | .sl id _ _ _ _ => decide (id < n0) || (decide (id < n0 + m) && isObj h[id]?)
  | .map id => decide (id < n0) || (decide (id < n0 + m) && isObj h[id]?)
  | .fn _ caps => caps.all treeL
  | _ => true
def keepC (h : Heap) (n0 m : Nat) (cs : List Leaf) : Bool := cs.all (keepL h n0 m)
def keepR (h : Heap) (n0 m : Nat) (es : List (List Leaf)) : Bool := es.all (keepC h n0 m)
def keepV (h : Heap) (n0 m : Nat) : V → Bool
  | .one l => keepL h n0 m l
  | .agg cs => keepC h n0 m cs
  | .junk => true
  | .tup _ => false
def keepO (h : Heap) (n0 m : Nat) : Option AO → Bool
  | some (.row _ es) => keepR h n0 m es
  | some (.mp _ _) => false
  | none => true

def Canon (n0 : Nat) : Nat → Heap → List (Option Nat) → Prop
  | _, _, [] => True
  | p, o :: t, none :: L => o = none ∧ Canon n0 (p + 1) t L
  | p, o :: t, some id :: L => id = n0 + p ∧ o.isSome = true ∧ Canon n0 (p + 1) t L
  | _, [], _ :: _ => False

theorem Canon.len {n0 : Nat} : ∀ {p : Nat} {t : Heap} {L : List (Option Nat)}, Canon n0 p t L → L.length ≤ t.length
  | _, _, [], _ => Nat.zero_le _
  | p, o :: t, none :: L, h => by have := Canon.len h.2; simpa using this
  | p, o :: t, some id :: L, h => by have := Canon.len h.2.2; simpa using this
theorem Canon.at {n0 : Nat} : ∀ {p : Nat} {t : Heap} {L : List (Option Nat)}, Canon n0 p t L → ∀ (i : Nat) (o : Option Nat), L[i]? = some o → (o = none ∧ t[i]? = some none) ∨ (o = some (n0 + (p + i)) ∧ ∃ a, t[i]? = some (some a))
  | _, _, [], _, i, o, h => by simp at h
  | p, x :: t, none :: L, hc, i, o, h => by
    cases i with
    | zero => simp at h; subst h; exact .inl ⟨rfl, by rw [hc.1]; rfl⟩
    | succ i =>
      have := Canon.at hc.2 i o (by simpa using h)
      rw [show p + (i + 1) = p + 1 + i by omega]
      simpa using this
  | p, x :: t, some id :: L, hc, i, o, h => by
    cases i with
    | zero =>
      simp at h; subst h
      obtain ⟨a, ha⟩ := Option.isSome_iff_exists.1 hc.2.1
      exact .inr ⟨by rw [hc.1]; rfl, a, by rw [ha]; rfl⟩
    | succ i =>
      have := Canon.at hc.2.2 i o (by simpa using h)
      rw [show p + (i + 1) = p + 1 + i by omega]
      simpa using this

theorem Canon.place {n0 : Nat} : ∀ {p : Nat} {t : Heap} {L : List (Option Nat)}, Canon n0 p t L → ∀ (i : Nat), (∃ a, t[i]? = some (some a)) → i < L.length → placeAt (n0 + (p + i)) L p = some (p + i)
  | _, _, [], _, i, _, h => by simp at h
  | p, x :: t, none :: L, hc, i, ha, h => by
    unfold placeAt
    simp only
    cases i with
    | zero => obtain ⟨a, ha⟩ := ha; rw [hc.1] at ha; cases ha
    | succ i =>
      rw [show p + (i + 1) = p + 1 + i by omega]
      exact Canon.place hc.2 i (by simpa using ha) (by simpa using h)
  | p, x :: t, some id :: L, hc, i, ha, h => by
    unfold placeAt
    simp only
    cases i with
    | zero => rw [if_pos (by rw [hc.1]; rfl)]; rfl
    | succ i =>
      rw [if_neg (by rw [hc.1]; omega), show p + (i + 1) = p + 1 + i by omega]
      exact Canon.place hc.2.2 i (by simpa using ha) (by simpa using h)

theorem Canon.okL {n0 : Nat} : ∀ {p : Nat} {t : Heap} {L : List (Option Nat)}, Canon n0 p t L → okL n0 L = true ∧ ∀ id, some id ∈ L → n0 + p ≤ id
  | _, _, [], _ => ⟨rfl, fun id h => by simp at h⟩
  | p, x :: t, none :: L, hc => by
    obtain ⟨h1, h2⟩ := Canon.okL hc.2
    refine ⟨h1, fun id h => ?_⟩
    have := h2 id (by simpa using h)
    omega
  | p, x :: t, some k :: L, hc => by
    obtain ⟨h1, h2⟩ := Canon.okL hc.2.2
    have hk := hc.1
    refine ⟨?_, fun id h => ?_⟩
    · unfold Abs.okL
      have hn : L.contains (some k) = false := by
        rw [← Bool.not_eq_true, List.contains_iff_mem]
        intro hm
        have := h2 k hm
        omega
      rw [hn, h1]
      simp
      omega
    · rcases List.mem_cons.1 h with h | h
      · cases h; omega
      · have := h2 id h; omega

section
variable {h t : Heap} {L : List (Option Nat)}

variable (hc : Canon h.length 0 t L)
include hc

variable (hr : ∀ i, i < L.length → ∀ o, t[i]? = some o → keepO (h ++ t) h.length L.length o = true)
include hr

def noNil : List Nat → List Leaf → Bool
  | [], _ => true
  | _ :: _, [] => true
  | k :: ks, c :: cs => (match k, c with | _ + 1, .nils => false | _, _ => true) && noNil ks cs

def noNilO (H : Heap) (ks : List Nat) : Option Nat → Prop
  | none => True
  | some id => match ks with
    | [] => True
    | _ :: _ => ∃ z es, H[id]? = some (some (.row z es)) ∧ ∀ cs, cs ∈ es → noNil ks cs = true ∧ cs.length ≤ ks.length
/-! The same, of slices whose elements hold slices. -/
def noNil2 (H : Heap) (n0 : Nat) : List (Nat × List Nat) → List Leaf → Prop
  | [], _ => True
  | _ :: _, [] => True
  | k :: ks, c :: cs => (match k.1 with | 0 => True | _ + 1 => c ≠ .nils ∧ noNilO H k.2 (ownId n0 c)) ∧ noNil2 H n0 ks cs
def noNilO2 (H : Heap) (n0 : Nat) (ks : List (Nat × List Nat)) : Option Nat → Prop
  | none => True
  | some id => ∃ z es, H[id]? = some (some (.row z es)) ∧ ∀ cs, cs ∈ es → noNil2 H n0 ks cs ∧ (ks ≠ [] → cs.length ≤ ks.length)
def KdOK (H : Heap) (n0 : Nat) (v : V) : Kd → Prop
  | .p => True
  | .m => True
  | .s _ ks => v ≠ .one .nils ∧ noNilO H ks (rootOf n0 v)
  | .b ks => noNilO H ks (rootOf n0 v)
  | .b2 kss => noNilO2 H n0 kss (rootOf n0 v)
  | .r _ => True
  | .x _ => v = .junk
  | .it _ => v = .junk
end

def KeepK (H : Heap) (n0 m : Nat) (T : Tmps) : List (Nat × Kd) → Prop
  | [] => True
  | e :: K => (keepV H n0 m (tget T e.1) = true ∧ KdOK H n0 (tget T e.1) e.2) ∧ KeepK H n0 m T K
theorem KeepK.each {H : Heap} {n0 m : Nat} {T : Tmps} : ∀ {K : List (Nat × Kd)}, KeepK H n0 m T K → ∀ e, e ∈ K → keepV H n0 m (tget T e.1) = true ∧ KdOK H n0 (tget T e.1) e.2
  | [], _, e, he => by simp at he
  | x :: K, h, e, he => by
    rcases List.mem_cons.1 he with rfl | he
    · exact h.1
    · exact h.2.each e he
def KeepT (H : Heap) (n0 m : Nat) : Nat → Heap → Prop
  | 0, _ => True
  | _ + 1, [] => True
  | k + 1, o :: t => keepO H n0 m o = true ∧ KeepT H n0 m k t
theorem KeepT.each {H : Heap} {n0 m : Nat} : ∀ {k : Nat} {t : Heap}, KeepT H n0 m k t → ∀ i, i < k → ∀ o, t[i]? = some o → keepO H n0 m o = true
  | 0, _, _, i, hi, _, _ => by omega
  | k + 1, [], _, i, _, o, e => by simp at e
  | k + 1, x :: t, h, i, hi, o, e => by
    cases i with
    | zero => simp at e; subst e; exact h.1
    | succ i => exact h.2.each i (by omega) o (by simpa using e)

end Go.Proofs.YtkbdhjfjbkmkcaaGreat.Abs
