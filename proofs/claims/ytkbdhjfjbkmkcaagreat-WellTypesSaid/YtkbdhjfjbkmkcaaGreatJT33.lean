/- The abstract machine: regions that draw their order and write, step by step. -/
import Derived.Test.YtkbdhjfjbkmkcaaGreatJT32
set_option linter.unusedSimpArgs false
set_option linter.unusedVariables false
namespace Go.Proofs.YtkbdhjfjbkmkcaaGreat.Abs
open Go Go.RowKit

structure Inf where
  b : Nat
  off : Nat
  ah : List Bool
  later : List Nat
  deriving DecidableEq
structure Info where
  cnt : Nat
  ops : List (OK × Inf)
  un : List (Nat × Nat)
  deriving DecidableEq

def infOf (l : List Oper) (bs offs : List Nat) (i : Nat) : Inf :=
  ⟨bs.getD i 0, offs.getD i 0, (List.range i).map fun j => (bs.getD i 0).testBit j,
    (offs.zip l).zipIdx.filterMap fun p => if needsSlot p.1.2 && !(bs.getD i 0).testBit p.2 && decide (i < p.2) then some p.1.1 else none⟩
def infsOf (l : List Oper) (bs offs : List Nat) : List Oper → Nat → List (OK × Inf)
  | [], _ => []
  | o :: r, i => (okOf o, infOf l bs offs i) :: infsOf l bs offs r (i + 1)
def pureAt (l : List Oper) (i : Nat) : Bool := match l[i]? with
  | some o => decide (okOf o = .pure)
  | none => true
def unOf (l : List Oper) (bs : List Nat) : List (Nat × Nat) :=
  (List.range l.length).flatMap fun i => (List.range l.length).filterMap fun j =>
    if j == i || (bs.getD i 0).testBit j || (bs.getD j 0).testBit i || pureAt l i || pureAt l j then none else some (i, j)
def infoOf (ops : Array Oper) (N : Nat) : Option Info :=
  if nodupB (ops.toList.filterMap (·.dst)) && edgesOK ops.toList 0 && ((ops.toList.filterMap (·.dst)).all fun d => decide (d < N)) && takesAll ops (befores ops.toList []) ops.toList 0 then
    some ⟨slotCount ops.toList, infsOf ops.toList (befores ops.toList []) (slotsOf ops.toList 0) ops.toList 0, unOf ops.toList (befores ops.toList [])⟩
  else none

def holesI : List Bool → List Rec → List Nat
  | a :: as, r :: rs => (if a then [] else r.touched) ++ holesI as rs
  | _, _ => []

section
variable (P : Program) (cf : CF) (N : Nat) (ops : Array Oper) (base : Nat)
def goI : List Oper → List (OK × Inf) → List Rec → St → Option (List Rec × St)
  | [], _, recs, s => some (recs, s)
  | _ :: _, [], _, _ => none
  | o :: rest, x :: xs, recs, s => match wantedA ops s.tmps o with
    | none => none
    | some false => goI rest xs (recs ++ [⟨x.2.b, false, [], [], [], none⟩]) { s with tmps := setD N s.tmps o.dst (.tup []) }
    | some true => match drawOp P cf (base + x.2.off) s.tmps s.heap x.2.b (holesI x.2.ah recs ++ x.2.later.map (base + ·)) o with
      | none => none
      | some (v, h, ws, r) => goI rest xs (recs ++ [r]) { tmps := setD N s.tmps o.dst v, heap := h, ws := s.ws ++ ws }

def unOK (un : List (Nat × Nat)) (recs : List Rec) : Bool := un.all fun p => match recs[p.1]?, recs[p.2]? with
  | some a, some b => apartR a b
  | _, _ => false

def drawI (s : St) (inf : Info) : Option St :=
  match goI P cf N ops s.heap.length ops.toList inf.ops [] { s with heap := s.heap ++ List.replicate inf.cnt none } with
  | none => none
  | some (recs, s') => if unOK inf.un recs then some s' else none
end

section
variable {P : Program} {cf : CF} {N : Nat} {ops : Array Oper} {base : Nat}

theorem slotsOf_shift : ∀ (l : List Oper) (n m : Nat), slotsOf l (n + m) = (slotsOf l m).map (n + ·)
  | [], n, m => rfl
  | o :: l, n, m => by
    simp only [slotsOf, List.map_cons]
    congr 1
    split
    · exact slotsOf_shift l n (m + 1)
    · exact slotsOf_shift l n m
theorem slotsOf_base (l : List Oper) (n : Nat) : slotsOf l n = (slotsOf l 0).map (n + ·) := slotsOf_shift l n 0
theorem slotsOf_length : ∀ (l : List Oper) (n : Nat), (slotsOf l n).length = l.length
  | [], n => rfl
  | o :: l, n => by simp [slotsOf, slotsOf_length l]

theorem holes_ahead (b : Nat) : ∀ (recs : List Rec) (n : Nat), ((recs.zipIdx n).flatMap fun p => if b.testBit p.2 then [] else p.1.touched) = holesI ((List.range' n recs.length).map fun j => b.testBit j) recs
  | [], n => rfl
  | r :: recs, n => by
    rw [List.zipIdx_cons, List.flatMap_cons, holes_ahead b recs (n + 1), List.length_cons, List.range'_succ, List.map_cons, holesI]

theorem holes_later (b i base : Nat) : ∀ (offs : List Nat) (l : List Oper) (n : Nat), (((offs.map (base + ·)).zip l).zipIdx n).filterMap (fun p => if needsSlot p.1.2 && !b.testBit p.2 && decide (i < p.2) then some p.1.1 else none)
    = (((offs.zip l).zipIdx n).filterMap fun p => if needsSlot p.1.2 && !b.testBit p.2 && decide (i < p.2) then some p.1.1 else none).map (base + ·)
  | [], l, n => by simp
  | x :: offs, [], n => by simp
  | x :: offs, o :: l, n => by
    simp only [List.map_cons, List.zip_cons_cons, List.zipIdx_cons, List.filterMap_cons]
    rw [holes_later b i base offs l (n + 1)]
    by_cases hc : (needsSlot o && !b.testBit n && decide (i < n)) = true
    · simp only [hc, if_true, List.map_cons]
    · simp only [hc, Bool.false_eq_true, if_false]

theorem holes_eq (l : List Oper) (bs : List Nat) (recs : List Rec) (base : Nat) : holesFor (bs.getD recs.length 0) recs recs.length (slotsOf l base) l
    = holesI (infOf l bs (slotsOf l 0) recs.length).ah recs ++ (infOf l bs (slotsOf l 0) recs.length).later.map (base + ·) := by
  unfold holesFor infOf
  simp only
  rw [holes_ahead, slotsOf_base l base, holes_later, List.range_eq_range']

def Gd (l : List Oper) (bs : List Nat) (j : Nat) (r : Rec) : Prop := r.before = bs.getD j 0 ∧ (pureAt l j = true → r.call = false ∧ r.reads = [] ∧ r.touched = [])

theorem drawOp_before {slot : Nat} {t : Tmps} {h h' : Heap} {b : Nat} {hs : List Nat} {o : Oper} {v : V} {ws : List Nat} {r : Rec} (e : drawOp P cf slot t h b hs o = some (v, h', ws, r)) :
    r.before = b ∧ (okOf o = .pure → r.call = false ∧ r.reads = [] ∧ r.touched = []) := by
  unfold drawOp at e
  split at e
  · split at e <;> cases e
    exact ⟨rfl, fun _ => ⟨rfl, rfl, rfl⟩⟩
  · rename_i hk
    split at e <;> cases e
    exact ⟨rfl, fun h => by rw [hk] at h; cases h⟩
  · rename_i hk
    split at e
    · split at e
      · split at e <;> cases e
        exact ⟨rfl, fun h => by rw [hk] at h; cases h⟩
      · cases e
    · cases e
  · rename_i hk
    split at e <;> cases e
    exact ⟨rfl, fun h => by rw [hk] at h; cases h⟩
  · rename_i hk
    split at e
    · split at e <;> cases e
      exact ⟨rfl, fun h => by rw [hk] at h; cases h⟩
    · cases e
  · cases e

theorem goI_go {L : List Oper} (hL : ops.toList = L) {bs : List Nat} : ∀ (l : List Oper) (recs recs' : List Rec) (s s' : St), L = L.take recs.length ++ l → recs.length ≤ L.length → takesAll ops bs l recs.length = true →
    (∀ j r, recs[j]? = some r → Gd L bs j r) →
    goI P cf N ops base l (infsOf L bs (slotsOf L 0) l recs.length) recs s = some (recs', s') →
    drawGo P cf N ops (slotsOf L base) bs l recs.length recs s = some (recs', s') ∧ (∀ j r, recs'[j]? = some r → Gd L bs j r) ∧ recs'.length = recs.length + l.length
  | [], recs, recs', s, s', hl, hle, ht, hg, e => by
    cases e
    exact ⟨rfl, hg, rfl⟩
  | o :: l, recs, recs', s, s', hl, hle, ht, hg, e => by
    unfold takesAll at ht
    rw [Bool.and_eq_true] at ht
    have hlt : recs.length < L.length := by
      rw [hl, List.length_append, List.length_take]; simp; omega
    have ho : L[recs.length]? = some o := by
      rw [hl, List.getElem?_append_right (by simp; omega)]
      simp [Nat.min_eq_left hle]
    have hnext : L = L.take (recs.length + 1) ++ l := by
      rw [List.take_add_one, ho]
      simpa using hl
    have hsl : (slotsOf L base).getD recs.length 0 = base + (slotsOf L 0).getD recs.length 0 := by
      rw [slotsOf_base L base, List.getD_eq_getElem?_getD, List.getD_eq_getElem?_getD, List.getElem?_map]
      have : recs.length < (slotsOf L 0).length := by rw [slotsOf_length]; exact hlt
      rw [List.getElem?_eq_getElem this]; rfl
    unfold drawGo
    simp only [ht.1, if_true]
    simp only [infsOf, goI] at e
    have snoc : ∀ r, Gd L bs recs.length r → ∀ j q, (recs ++ [r])[j]? = some q → Gd L bs j q := by
      intro r hr j q hq
      rcases Nat.lt_trichotomy j recs.length with hj | hj | hj
      · rw [List.getElem?_append_left hj] at hq; exact hg j q hq
      · subst hj
        rw [List.getElem?_append_right (Nat.le_refl _), Nat.sub_self] at hq
        cases hq; exact hr
      · rw [List.getElem?_eq_none (by simp; omega)] at hq; cases hq
    split at e
    · cases e
    · rename_i hw
      rw [hw]
      simp only
      have := goI_go hL l (recs ++ [⟨bs.getD recs.length 0, false, [], [], [], none⟩]) recs' _ s' (by simpa using hnext) (by simp; omega) (by simpa using ht.2) (snoc _ ⟨rfl, fun _ => ⟨rfl, rfl, rfl⟩⟩) (by rw [List.length_append]; exact e)
      simp only [List.length_append, List.length_cons, List.length_nil, Nat.zero_add] at this
      exact ⟨this.1, this.2.1, by rw [this.2.2]; simp; omega⟩
    · rename_i hw
      rw [hw]
      simp only
      rw [hsl, hL, holes_eq L bs recs base]
      split at e
      · cases e
      · rename_i v h ws r hd
        have hd' : drawOp P cf (base + (slotsOf L 0).getD recs.length 0) s.tmps s.heap (bs.getD recs.length 0) (holesI (infOf L bs (slotsOf L 0) recs.length).ah recs ++ (infOf L bs (slotsOf L 0) recs.length).later.map (base + ·)) o = some (v, h, ws, r) := hd
        rw [hd']
        simp only
        have hb := drawOp_before hd'
        have := goI_go hL l (recs ++ [r]) recs' _ s' (by simpa using hnext) (by simp; omega) (by simpa using ht.2) (snoc _ ⟨hb.1, fun hp => hb.2 (by simpa [pureAt, ho] using hp)⟩) (by rw [List.length_append]; exact e)
        simp only [List.length_append, List.length_cons, List.length_nil, Nat.zero_add] at this
        exact ⟨this.1, this.2.1, by rw [this.2.2]; simp; omega⟩

theorem pairsOK_of {all : List Rec} (h : ∀ i j a b, all[i]? = some a → all[j]? = some b → j = i ∨ a.before.testBit j = true ∨ b.before.testBit i = true ∨ apartR a b = true) :
    ∀ (l : List Rec) (n : Nat), (∀ k r, l[k]? = some r → all[n + k]? = some r) → pairsOK all n l = true
  | [], n, hl => rfl
  | r :: l, n, hl => by
    unfold pairsOK
    rw [Bool.and_eq_true]
    refine ⟨List.all_eq_true.2 fun p hp => ?_, pairsOK_of h l (n + 1) fun k q hq => by have := hl (k + 1) q hq; rwa [show n + 1 + k = n + (k + 1) by omega]⟩
    have h1 := List.mem_zipIdx_iff_getElem?.1 hp
    have h2 := hl 0 r rfl
    rcases h n p.2 r p.1 h2 h1 with e | e | e | e <;> simp [e]

theorem apart_pure {a b : Rec} (h : a.call = false ∧ a.reads = [] ∧ a.touched = []) : apartR a b = true := by
  unfold apartR
  rw [h.1, h.2.1, h.2.2]
  have hd : ∀ x, disjoint x [] = true := fun x => by simp [disjoint]
  cases hb : b.call <;> simp [hd, disjoint]
theorem apart_pure' {a b : Rec} (h : b.call = false ∧ b.reads = [] ∧ b.touched = []) : apartR a b = true := by
  unfold apartR
  rw [h.1, h.2.1, h.2.2]
  have hd : ∀ x, disjoint x [] = true := fun x => by simp [disjoint]
  cases hb : a.call <;> simp [hd, disjoint]

theorem draw_info {inf : Info} {s s' : St} (hi : infoOf ops N = some inf) (e : drawI P cf N ops s inf = some s') : absDraw P cf N ops s = some s' := by
  unfold infoOf at hi
  split at hi
  · rename_i hq
    cases hi
    simp only [Bool.and_eq_true] at hq
    obtain ⟨⟨⟨q1, q2⟩, q3⟩, q5⟩ := hq
    unfold drawI at e
    simp only at e
    split at e
    · cases e
    · rename_i recs s1 hgo
      split at e
      · rename_i hun
        cases e
        have key := goI_go (P := P) (cf := cf) (N := N) (base := s.heap.length) (L := ops.toList) rfl (bs := befores ops.toList []) ops.toList [] recs _ _ (by simp) (by simp) q5 (by simp) hgo
        unfold absDraw
        simp only [q1, q2, q3, Bool.and_self, if_true]
        have h1 : drawGo P cf N ops (slotsOf ops.toList s.heap.length) (befores ops.toList []) ops.toList 0 [] { s with heap := s.heap ++ List.replicate (slotCount ops.toList) none } = some (recs, s') := key.1
        rw [h1]
        have hp : pairsOK recs 0 recs = true := by
          refine pairsOK_of (fun i j a b ha hb => ?_) recs 0 (fun k r hr => by simpa using hr)
          obtain ⟨g1, g2⟩ := key.2.1 i a ha
          obtain ⟨g3, g4⟩ := key.2.1 j b hb
          have hli : i < ops.toList.length := by have := (List.getElem?_eq_some_iff.1 ha).1; have := key.2.2; simp at this ⊢; omega
          have hlj : j < ops.toList.length := by have := (List.getElem?_eq_some_iff.1 hb).1; have := key.2.2; simp at this ⊢; omega
          by_cases c1 : j = i
          · exact .inl c1
          by_cases c2 : ((befores ops.toList []).getD i 0).testBit j = true
          · exact .inr (.inl (by rw [g1]; exact c2))
          by_cases c3 : ((befores ops.toList []).getD j 0).testBit i = true
          · exact .inr (.inr (.inl (by rw [g3]; exact c3)))
          by_cases c4 : pureAt ops.toList i = true
          · exact .inr (.inr (.inr (apart_pure (g2 c4))))
          by_cases c5 : pureAt ops.toList j = true
          · exact .inr (.inr (.inr (apart_pure' (g4 c5))))
          refine .inr (.inr (.inr ?_))
          have hm : (i, j) ∈ unOf ops.toList (befores ops.toList []) := by
            unfold unOf
            rw [List.mem_flatMap]
            refine ⟨i, List.mem_range.2 hli, ?_⟩
            rw [List.mem_filterMap]
            refine ⟨j, List.mem_range.2 hlj, ?_⟩
            simp only [Bool.not_eq_true] at c2 c3 c4 c5
            have c1' : (j == i) = false := by simpa using c1
            rw [c1', c2, c3, c4, c5]; rfl
          have := List.all_eq_true.1 hun _ hm
          simpa [ha, hb] using this
        simp [hp]
      · cases e
  · cases hi
end
end Go.Proofs.YtkbdhjfjbkmkcaaGreat.Abs
