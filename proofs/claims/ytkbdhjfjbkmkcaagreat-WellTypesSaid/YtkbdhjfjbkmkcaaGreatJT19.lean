/- The abstract machine: code and calls, where objects that are not looked at may be there or not. -/
import Derived.Test.YtkbdhjfjbkmkcaaGreatJT18
set_option linter.unusedSimpArgs false
set_option linter.unusedVariables false
namespace Go.Proofs.YtkbdhjfjbkmkcaaGreat.Abs
open Go Go.RowKit

structure SubS (n0 : Nat) (s S : St) : Prop where
  tmps : S.tmps = s.tmps
  ws : S.ws = s.ws
  heap : Sub n0 s.heap S.heap
  same : ∀ id, id ∈ s.ws → s.heap[id]? = S.heap[id]?
  le : n0 ≤ s.heap.length

theorem SubS.step {n0 : Nat} {s S : St} (h : SubS n0 s S) {slot : Option Nat} (hs : ∀ k, slot = some k → n0 ≤ k) {h' H' : Heap} {ws : List Nat} {t : Tmps}
    (f1 : Fr slot s.heap h' ws) (f2 : Fr slot S.heap H' ws) (r : SubR n0 ws h' H') : SubS n0 ⟨t, h', s.ws ++ ws⟩ ⟨t, H', S.ws ++ ws⟩ := by
  refine ⟨rfl, by simp [h.ws], r.1, fun id hid => ?_, Nat.le_trans h.le f1.1⟩
  simp only at hid ⊢
  by_cases hw : id ∈ ws
  · exact r.2 id hw
  · by_cases hge : n0 ≤ id
    · exact (r.1.2 id).1 hge
    · have hlt : id < s.heap.length := by have := h.le; omega
      have hsl : slot ≠ some id := fun e => hge (hs id e)
      rw [f1.2 id hlt hw hsl, f2.2 id (by rw [← h.heap.1]; exact hlt) hw hsl]
      exact h.same id (by simpa [hw] using hid)

theorem SubS.tmp {n0 : Nat} {s S : St} (h : SubS n0 s S) (t : Tmps) : SubS n0 { s with tmps := t } { S with tmps := t } := ⟨rfl, h.ws, h.heap, h.same, h.le⟩

section
variable {n0 nn : Nat} {h H : Heap}

theorem mapO_congr {α β : Type} {f g : α → Option β} (hfg : ∀ x, f x = g x) : mapO f = mapO g := by rw [show f = g from funext hfg]

theorem mapO_congr' {α β : Type} {f g : α → Option β} : ∀ {l : List α}, (∀ x, x ∈ l → f x = g x) → mapO f l = mapO g l
  | [], _ => rfl
  | x :: l, hl => by
    unfold mapO
    rw [hl x List.mem_cons_self, mapO_congr' fun y hy => hl y (List.mem_cons_of_mem _ hy)]

theorem mapO_up0 {α β : Type} {f g : α → Option β} (hfg : ∀ x y, f x = some y → g x = some y) : ∀ (xs : List α) (ys : List β), mapO f xs = some ys → mapO g xs = some ys
  | [], ys, h => h
  | x :: xs, ys, h => by
    unfold mapO at h ⊢
    split at h
    · cases h
    · rename_i y hy
      split at h
      · cases h
      · rename_i ys' hys
        rw [hfg x y hy, mapO_up0 hfg xs _ hys]; exact h
theorem fzMapM_up {f g : Leaf → Option Leaf} (hfg : ∀ x y, f x = some y → g x = some y) {es : List (Leaf × V × Nat)} {l : Leaf} (e : fzMapM f es = some l) : fzMapM g es = some l := by
  unfold fzMapM at e ⊢
  split at e
  · cases e
  · rename_i ks hks
    split at e
    · cases e
    · rename_i rows hrows
      have h1 := mapO_up0 (f := fun e : Leaf × V × Nat => f e.1) (g := fun e => g e.1) (fun x y => hfg x.1 y) es ks hks
      have h2 := mapO_up0 (f := fun e : Leaf × V × Nat => fzCellsM f (aggM es) e.2.1) (g := fun e => fzCellsM g (aggM es) e.2.1) (fun x y hy => by
        unfold fzCellsM at hy ⊢
        split at hy
        · split at hy
          · cases hy
          · rename_i hg
            obtain ⟨l', k1, rfl⟩ := Option.map_eq_some_iff.1 hy
            simp only [hg]
            rw [hfg _ _ k1]; rfl
        · split at hy
          · rename_i hg
            simp only [hg, if_true]
            exact mapO_up0 hfg _ _ hy
          · cases hy
        · cases hy) es rows hrows
      rw [h1]
      simp only [h2]
      exact e

section
variable (hs : ∀ id, nn ≤ id → h[id]? = H[id]?) (L : List (Option Nat))
include hs

theorem fzL_same : ∀ (k : Nat) (l : Leaf), fzL h nn L k l = fzL H nn L k l
  | 0, l => rfl
  | k + 1, l => by
    have ih := fzL_same k
    have hrow : ∀ id sz, goes nn L id = true → rowAt h id sz = rowAt H id sz := by
      intro id sz hg
      simp only [goes, Bool.and_eq_true, decide_eq_true_eq] at hg
      simp only [rowAt, hs id hg.1]
    cases l
    case sl id esz sz off len =>
      simp only [fzL]
      split
      · rename_i hg
        rw [hrow id sz hg, mapO_congr ih]
      · rfl
    case ptr id sz i off =>
      simp only [fzL]
      split
      · rename_i hg
        rw [hrow id sz hg, mapO_congr ih]
      · rfl
    case fn f caps => simp only [fzL]; rw [mapO_congr ih]
    case map id =>
      simp only [fzL]
      split
      · rename_i hg
        simp only [goes, Bool.and_eq_true, decide_eq_true_eq] at hg
        rw [hs id hg.1, show fzL h nn L k = fzL H nn L k from funext ih]
      · rfl
    all_goals rfl

theorem fzR_same (l : Leaf) : fzR h nn L l = fzR H nn L l := by
  unfold fzR; rw [fzL_same hs]

theorem fzT_same (l : Leaf) : fzT h nn L l = fzT H nn L l := by
  cases l
  case fn f caps => simp only [fzT]; rw [mapO_congr (fzR_same hs L)]
  all_goals exact fzR_same hs L _

theorem fzV0_same (v : V) : fzV0 h nn L v = fzV0 H nn L v := by
  unfold fzV0
  split
  · rfl
  · rw [fzT_same hs]
  · rw [mapO_congr (fzT_same hs L)]
  · rfl

theorem fzV_same (v : V) : fzV h nn L v = fzV H nn L v := by
  unfold fzV
  split
  · rw [mapO_congr (fzV0_same hs L)]
  · exact fzV0_same hs L _

theorem fzE_same (e : Leaf × V × Nat) : fzE h nn L e = fzE H nn L e := by
  unfold fzE; rw [fzT_same hs L, fzV0_same hs L]

theorem fzO_same (o : AO) : fzO h nn L o = fzO H nn L o := by
  unfold fzO
  split
  · rw [mapO_congr (fzT_same hs L)]
  · rw [mapO_congr (fzE_same hs L)]

theorem fzH_same : ∀ (ids : List Nat) (a A : Heap), (∀ id, id ∈ ids → h[id]? = H[id]?) → Sub n0 a A →
    (fzH h nn L ids a = none ∧ fzH H nn L ids A = none) ∨ ∃ r R, fzH h nn L ids a = some r ∧ fzH H nn L ids A = some R ∧ Sub n0 r R
  | [], a, A, _, s => .inr ⟨a, A, rfl, rfl, s⟩
  | id :: ids, a, A, hw, s => by
    unfold fzH
    rw [← hw id List.mem_cons_self]
    split
    · rename_i o ho
      rw [← fzO_same hs]
      split
      · exact .inl ⟨rfl, rfl⟩
      · exact fzH_same ids _ _ (fun k hk => hw k (List.mem_cons_of_mem _ hk)) (s.set _ _)
    · exact .inl ⟨rfl, rfl⟩

theorem objOf_same {x : Option Nat} (hx : ∀ id, x = some id → nn ≤ id) : objOf h nn L x = objOf H nn L x := by
  unfold objOf
  split
  · rfl
  · rename_i id
    rw [hs id (hx id rfl)]
    split
    · rw [fzO_same hs]
    · rfl

omit hs in
theorem ownId_le {l : Leaf} {id : Nat} (e : ownId nn l = some id) : nn ≤ id := by
  unfold ownId at e
  split at e
  · split at e
    · cases e; assumption
    · cases e
  · cases e

omit hs in
theorem rootOf_le {v : V} {id : Nat} (e : rootOf nn v = some id) : nn ≤ id := by
  unfold rootOf at e
  split at e
  · exact ownId_le e
  · cases e

theorem insideIds_same {ks : List Nat} {x : Option Nat} (hx : ∀ id, x = some id → nn ≤ id) : insideIds h nn ks x = insideIds H nn ks x := by
  unfold insideIds
  split
  · rfl
  · split
    · rfl
    · rename_i id; rw [hs id (hx id rfl)]

theorem cellIds2_same : ∀ (ks : List (Nat × List Nat)) (cs : List Leaf), cellIds2 h nn ks cs = cellIds2 H nn ks cs
  | [], cs => rfl
  | k :: ks, [] => rfl
  | (0, k2) :: ks, c :: cs => by unfold cellIds2; exact cellIds2_same ks cs
  | (e + 1, k2) :: ks, c :: cs => by
    unfold cellIds2
    simp only
    rw [cellIds2_same ks cs, insideIds_same hs fun id e => ownId_le e]

theorem insideIds2_same {kss : List (Nat × List Nat)} {x : Option Nat} (hx : ∀ id, x = some id → nn ≤ id) : insideIds2 h nn kss x = insideIds2 H nn kss x := by
  unfold insideIds2
  split
  · rfl
  · rename_i id
    rw [hs id (hx id rfl)]
    split
    · rw [show cellIds2 h nn kss = cellIds2 H nn kss from funext fun cs => cellIds2_same hs kss cs]
    · rfl

theorem kdIds_same (v : V) (kd : Kd) : kdIds h nn v kd = kdIds H nn v kd := by
  cases kd <;> simp only [kdIds]
  · rw [insideIds_same hs fun id e => rootOf_le e]
  · rw [insideIds_same hs fun id e => rootOf_le e]
  · rw [insideIds2_same hs fun id e => rootOf_le e]

theorem kdL_same (t : Tmps) : ∀ K, kdL h nn t K = kdL H nn t K
  | [] => rfl
  | e :: K => by simp only [kdL, kdIds_same hs, kdL_same t K]

theorem newCells_same : ∀ (p : Nat) (ks : List Nat) (cs : List Leaf), newCells h nn L p ks cs = newCells H nn L p ks cs
  | p, [], cs => by unfold newCells; rw [mapO_congr (fzT_same hs L)]
  | p, k :: ks, [] => rfl
  | p, 0 :: ks, c :: cs => by unfold newCells; simp only; rw [fzT_same hs L, newCells_same p ks cs]
  | p, (e + 1) :: ks, c :: cs => by
    unfold newCells; simp only
    rw [newCells_same (p + 1) ks cs]
    split
    · rfl
    · rw [fzT_same hs L, objOf_same hs L fun id e => ownId_le e]

theorem newRows_same {ks : List Nat} : ∀ (p : Nat) (es : List (List Leaf)), newRows h nn L ks p es = newRows H nn L ks p es
  | p, [] => rfl
  | p, cs :: es => by
    unfold newRows
    rw [newCells_same hs L]
    split
    · rfl
    · rw [newRows_same _ es]

theorem newRoot_same {p : Nat} {ks : List Nat} {x : Option Nat} (hx : ∀ id, x = some id → nn ≤ id) : newRoot h nn L p ks x = newRoot H nn L p ks x := by
  unfold newRoot
  split
  · rfl
  · rename_i id
    split
    · rw [objOf_same hs L hx]
    · rw [hs id (hx id rfl)]
      split
      · rw [newRows_same hs L]
      · rfl

theorem newCells2_same : ∀ (p : Nat) (ks : List (Nat × List Nat)) (cs : List Leaf), newCells2 h nn L p ks cs = newCells2 H nn L p ks cs
  | p, [], cs => by unfold newCells2; rw [mapO_congr (fzT_same hs L)]
  | p, k :: ks, [] => rfl
  | p, (0, k2) :: ks, c :: cs => by unfold newCells2; simp only; rw [fzT_same hs L, newCells2_same p ks cs]
  | p, (e + 1, k2) :: ks, c :: cs => by
    unfold newCells2; simp only
    rw [newCells2_same (p + 1) ks cs]
    split
    · rfl
    · rw [fzT_same hs L, newRoot_same hs L fun id e => ownId_le e]
      split
      · rfl
      · split
        · rfl
        · rw [newCells2_same _ ks cs]

theorem newRows2_same {kss : List (Nat × List Nat)} : ∀ (p : Nat) (es : List (List Leaf)), newRows2 h nn L kss p es = newRows2 H nn L kss p es
  | p, [] => rfl
  | p, cs :: es => by
    unfold newRows2
    rw [newCells2_same hs L]
    split
    · rfl
    · rw [newRows2_same _ es]

theorem newRoot2_same {p : Nat} {kss : List (Nat × List Nat)} {x : Option Nat} (hx : ∀ id, x = some id → nn ≤ id) : newRoot2 h nn L p kss x = newRoot2 H nn L p kss x := by
  unfold newRoot2
  split
  · rfl
  · rename_i id
    rw [hs id (hx id rfl)]
    split
    · rw [newRows2_same hs L]
    · rfl

theorem kdNew_same (p : Nat) (v : V) (kd : Kd) : kdNew h nn L p v kd = kdNew H nn L p v kd := by
  have hr : ∀ v id, rootOf nn v = some id → nn ≤ id := fun v id e => rootOf_le e
  cases kd <;> simp only [kdNew]
  · rw [fzV_same hs L]
  · split
    · rfl
    · rw [fzV_same hs L, newRoot_same hs L (hr _)]
  · rw [fzV_same hs L, newRoot_same hs L (hr _)]
  · rw [fzV_same hs L, newRoot_same hs L (hr _)]
  · rw [fzV_same hs L, newRoot2_same hs L (hr _)]
  · rw [fzV_same hs L]

theorem kdAll_same (t : Tmps) : ∀ (p : Nat) K, kdAll h nn L t p K = kdAll H nn L t p K
  | p, [] => rfl
  | p, e :: K => by
    unfold kdAll
    rw [kdNew_same hs L]
    split
    · rfl
    · rw [kdAll_same t _ K]
end

theorem Sub.take (s : Sub n0 h H) (k : Nat) : Sub n0 (h.take k) (H.take k) := by
  refine ⟨by simp [s.1], fun id => ?_⟩
  rw [List.getElem?_take, List.getElem?_take]
  split
  · exact s.2 id
  · exact ⟨fun _ => rfl, .inr rfl⟩

def WSub (n0 : Nat) (r R : V × Heap × List Nat) : Prop := R.1 = r.1 ∧ R.2.2 = r.2.2 ∧ Sub n0 r.2.1 R.2.1 ∧ ∀ id, id ∈ r.2.2 → r.2.1[id]? = R.2.1[id]?

theorem fzH_alive {L : List (Option Nat)} {ws : List Nat} {r R : Heap} (hl : nn ≤ h.length) (hws : ∀ id, id ∈ ws → id < nn) (e : fzH h nn L ws (h.take nn) = some r) (s : Sub n0 r R) : ∀ id, id ∈ ws → id < r.length ∧ r[id]? = R[id]? := by
  intro id hid
  obtain ⟨g1, g2⟩ := fzH_some e
  have hlt : id < (h.take nn).length := by rw [List.length_take]; have := hws id hid; omega
  refine ⟨by rw [g1]; exact hlt, ?_⟩
  rcases g2 id hlt with ⟨_, o, o', _, _, k⟩ | ⟨k, _⟩
  · rcases (s.2 id).2 with e1 | e1
    · rw [e1] at k; cases k
    · exact e1
  · exact (k hid).elim

theorem Sub.tail {r R : Heap} (s : Sub n0 r R) (t : Heap) : Sub n0 (r ++ t) (R ++ t) := by
  refine ⟨by simp [s.1], fun id => ?_⟩
  rcases Nat.lt_or_ge id r.length with hl | hl
  · rw [List.getElem?_append_left hl, List.getElem?_append_left (by rw [← s.1]; exact hl)]
    exact s.2 id
  · rw [List.getElem?_append_right hl, List.getElem?_append_right (by rw [← s.1]; exact hl), s.1]
    exact ⟨fun _ => rfl, .inr rfl⟩

theorem tail_same {r R : Heap} (s : Sub n0 r R) (t : Heap) {ws : List Nat} (h1 : ∀ id, id ∈ ws → id < r.length ∧ r[id]? = R[id]?) : ∀ id, id ∈ ws → (r ++ t)[id]? = (R ++ t)[id]? := by
  intro id hid
  obtain ⟨h2, h3⟩ := h1 id hid
  rw [List.getElem?_append_left h2, List.getElem?_append_left (by rw [← s.1]; exact h2), h3]

theorem okL_ge {L : List (Option Nat)} (h : okL nn L = true) : ∀ x, x ∈ L → ∀ id, x = some id → nn ≤ id := fun x hx id e => (okL_some h).1 id (by rw [← e]; exact hx)

theorem wrapC_mono (hnn : n0 ≤ nn) (hl : nn ≤ h.length) (s : Sub n0 h H) (L : List (Option Nat)) (v : V) {ws : List Nat} (hws : ∀ id, id ∈ ws → id < nn) (hw : ∀ id, id ∈ ws → h[id]? = H[id]?) : WSub n0 (wrapC nn L v h ws) (wrapC nn L v H ws) := by
  have hs : ∀ id, nn ≤ id → h[id]? = H[id]? := fun id hid => (s.2 id).1 (by omega)
  unfold wrapC
  have key : (wrapL nn L v h ws = none ∧ wrapL nn L v H ws = none) ∨ ∃ v' r R, wrapL nn L v h ws = some (v', r) ∧ wrapL nn L v H ws = some (v', R) ∧ Sub n0 r R ∧ ∀ id, id ∈ ws → r[id]? = R[id]? := by
    unfold wrapL
    rw [← fzV_same hs L]
    split
    · rename_i hok
      split
      · exact .inl ⟨rfl, rfl⟩
      · rename_i v' hv
        have ho : mapO (objOf H nn L) L = mapO (objOf h nn L) L := (mapO_congr' fun x hx => objOf_same hs L (okL_ge hok x hx)).symm
        rw [ho]
        rcases fzH_same hs L ws (h.take nn) (H.take nn) hw (s.take nn) with ⟨e1, e2⟩ | ⟨r, R, e1, e2, e3⟩
        · rw [e1, e2]; exact .inl ⟨rfl, rfl⟩
        · rw [e1, e2]
          simp only
          split
          · exact .inl ⟨rfl, rfl⟩
          · rename_i t ht
            exact .inr ⟨_, _, _, rfl, rfl, e3.tail t, tail_same e3 t (fzH_alive hl hws e1 e3)⟩
    · exact .inl ⟨rfl, rfl⟩
  rcases key with ⟨e1, e2⟩ | ⟨v', r, R, e1, e2, e3, e4⟩
  · rw [e1, e2]; exact ⟨rfl, rfl, s, hw⟩
  · rw [e1, e2]; exact ⟨rfl, rfl, e3, e4⟩

theorem wrapUp_mono (hnn : n0 ≤ nn) (hl : nn ≤ h.length) (s : Sub n0 h H) (v : V) {ws : List Nat} (hw : ∀ id, id ∈ ws → h[id]? = H[id]?) (mode : Nat) : WSub n0 (wrapUp mode nn v h ws) (wrapUp mode nn v H ws) := by
  have hws : ∀ id, id ∈ wsOf nn ws → id < nn := fun id hid => ((mem_ws nn ws id).1 hid).2
  have hw' : ∀ id, id ∈ wsOf nn ws → h[id]? = H[id]? := fun id hid => hw id ((mem_ws nn ws id).1 hid).1
  unfold wrapUp
  split
  · exact wrapC_mono hnn hl s _ v hws hw'
  · exact wrapC_mono hnn hl s _ v hws hw'
  · exact ⟨rfl, rfl, s, hw'⟩

theorem tidy_mono (hnn : n0 ≤ nn) {K : List (Nat × Kd)} {s S : St} (hl : nn ≤ s.heap.length) (h : SubS n0 s S) : SubS n0 (tidy nn K s) (tidy nn K S) := by
  have hs : ∀ id, nn ≤ id → s.heap[id]? = S.heap[id]? := fun id hid => (h.heap.2 id).1 (by omega)
  have hws : ∀ id, id ∈ wsOf nn s.ws → id < nn := fun id hid => ((mem_ws nn s.ws id).1 hid).2
  have hw' : ∀ id, id ∈ wsOf nn s.ws → s.heap[id]? = S.heap[id]? := fun id hid => h.same id ((mem_ws nn s.ws id).1 hid).1
  have key : (tidyO nn K s = none ∧ tidyO nn K S = none) ∨ ∃ s' S', tidyO nn K s = some s' ∧ tidyO nn K S = some S' ∧ SubS n0 s' S' := by
    unfold tidyO
    simp only
    rw [h.tmps, h.ws, ← kdL_same hs, ← kdAll_same hs]
    split
    · rename_i hok
      split
      · exact .inl ⟨rfl, rfl⟩
      · rename_i q hq
        rcases fzH_same hs (kdL s.heap nn s.tmps K) (wsOf nn s.ws) (s.heap.take nn) (S.heap.take nn) hw' (h.heap.take nn) with ⟨e1, e2⟩ | ⟨r, R, e1, e2, e3⟩
        · rw [e1, e2]; exact .inl ⟨rfl, rfl⟩
        · rw [e1, e2]
          have hlen : r.length = nn := (fzH_fr hl e1).1
          exact .inr ⟨_, _, rfl, rfl, rfl, rfl, e3.tail _, tail_same e3 _ (fzH_alive hl hws e1 e3), by simp only [List.length_append]; omega⟩
    · exact .inl ⟨rfl, rfl⟩
  unfold tidy
  rcases key with ⟨e1, e2⟩ | ⟨s', S', e1, e2, e3⟩
  · rw [e1, e2]
    simp only
    rw [h.tmps]
    exact ⟨rfl, h.ws, h.heap, h.same, h.le⟩
  · rw [e1, e2]; exact e3

end

section
variable {P : Program} {cf : CF} (hcf : CFMono cf) (hfr : CFFr cf) {n0 : Nat}
include hcf hfr

theorem absOps_mono {N : Nat} {ops : Array Oper} : ∀ (l : List Oper) (s S s' : St), SubS n0 s S → absOps P cf N ops l s = some s' → ∃ S', absOps P cf N ops l S = some S' ∧ SubS n0 s' S'
  | [], s, S, s', h, e => by cases e; exact ⟨S, rfl, h⟩
  | o :: l, s, S, s', h, e => by
    unfold absOps at e ⊢
    rw [h.tmps]
    split at e
    · cases e
    · exact absOps_mono l _ _ s' (h.tmp _) e
    · split at e
      · cases e
      · rename_i v h' ws hop
        obtain ⟨H', k1, k2⟩ := absOp_mono hcf h.heap h.le (slot := none) nofun hop
        rw [k1]
        exact absOps_mono l _ _ s' (h.step (slot := none) (fun k hk => by cases hk) (absOp_fr hfr hop) (absOp_fr hfr k1) k2) e

omit hcf hfr in
theorem blank_sub {h H : Heap} (s : Sub n0 h H) (ids : List Nat) : Sub n0 (blank ids 0 h) (blank ids 0 H) := by
  refine ⟨by rw [blank_length, blank_length]; exact s.1, fun id => ?_⟩
  rw [blank_get, blank_get, Nat.zero_add]
  split
  · have hm : (h[id]?).map (fun _ => (none : Option AO)) = (H[id]?).map fun _ => none := by
      by_cases hl : id < h.length
      · have hl' : id < H.length := by rw [← s.1]; exact hl
        simp [hl, hl']
      · have hl' : ¬ id < H.length := by rw [← s.1]; exact hl
        simp [hl, hl']
    exact ⟨fun _ => hm, .inr hm⟩
  · exact s.2 id

omit hfr in
theorem drawOp_mono {slot : Nat} (hs : n0 ≤ slot) {t : Tmps} {h H : Heap} (s : Sub n0 h H) (hn : n0 ≤ h.length) {b : Nat} {hol : List Nat} {o : Oper} {v : V} {h' : Heap} {ws : List Nat} {r : Rec}
    (e : drawOp P cf slot t h b hol o = some (v, h', ws, r)) : ∃ H', drawOp P cf slot t H b hol o = some (v, H', ws, r) ∧ SubR n0 ws h' H' := by
  unfold drawOp at e ⊢
  split at e
  · (try simp only [])
    split at e
    · rename_i v0 ws0 hop; cases e; exact ⟨H, rfl, s, fun id hid => by simp at hid⟩
    · cases e
  · (try simp only [])
    split at e
    · rename_i v0 h0 ws0 hop
      cases e
      obtain ⟨H', k1, k2⟩ := absOp_mono hcf s hn (slot := some slot) (fun k hk => by cases hk; exact hs) hop
      rw [k1]; exact ⟨H', rfl, k2⟩
    · cases e
  · (try simp only [])
    split at e
    · (try simp only [])
      split at e
      · (try simp only [])
        split at e
        · rename_i v0 h0 ws0 hop
          cases e
          obtain ⟨H', k1, k2⟩ := absOp_mono hcf s hn (slot := none) nofun hop
          rw [k1]; exact ⟨H', rfl, k2⟩
        · cases e
      · cases e
    · cases e
  · (try simp only [])
    split at e
    · rename_i v0 h0 ws0 hop
      cases e
      obtain ⟨H', k1, k2⟩ := absOp_mono hcf s hn (slot := some slot) (fun k hk => by cases hk; exact hs) hop
      rw [k1]; exact ⟨H', rfl, k2⟩
    · cases e
  · (try simp only [])
    split at e
    · rename_i v0 h0 ws0 hop
      split at e
      · rename_i hl
        cases e
        obtain ⟨H0, k1, k2⟩ := absOp_mono hcf (blank_sub s hol) (by rw [blank_length]; exact hn) (slot := none) nofun hop
        rw [k1]
        simp only []
        have hl2 : H0.length = H.length := by rw [← k2.1.1, hl, s.1]
        rw [if_pos hl2]
        have hget : ∀ id, id ∈ ws → h0.getD id none = H0.getD id none := by
          intro id hid
          simp only [List.getD]; rw [k2.2 id hid]
        refine ⟨_, rfl, ⟨by rw [putBack_length, putBack_length]; exact s.1, fun id => ?_⟩, fun id hid => ?_⟩
        · by_cases hlt : id < h.length
          · rw [putBack_get _ _ _ _ _ hlt, putBack_get _ _ _ _ _ (by rw [← s.1]; exact hlt), Nat.zero_add]
            split
            · rename_i hid; rw [hget id hid]; exact ⟨fun _ => rfl, .inr rfl⟩
            · exact s.2 id
          · have e1 : (putBack ws h0 0 h)[id]? = none := List.getElem?_eq_none (by rw [putBack_length]; omega)
            have e2 : (putBack ws H0 0 H)[id]? = none := List.getElem?_eq_none (by rw [putBack_length, ← s.1]; omega)
            rw [e1, e2]; exact ⟨fun _ => rfl, .inr rfl⟩
        · by_cases hlt : id < h.length
          · rw [putBack_get _ _ _ _ _ hlt, putBack_get _ _ _ _ _ (by rw [← s.1]; exact hlt), Nat.zero_add, if_pos hid, if_pos hid, hget id hid]
          · rw [List.getElem?_eq_none (by rw [putBack_length]; omega), List.getElem?_eq_none (by rw [putBack_length, ← s.1]; omega)]
      · cases e
    · cases e
  · cases e

theorem drawGo_mono {N : Nat} {ops : Array Oper} {slots bs : List Nat} (hsl : ∀ i, i < ops.size → n0 ≤ slots.getD i 0) : ∀ (l : List Oper) (i : Nat) (recs recs' : List Rec) (s S s' : St), i + l.length ≤ ops.size → SubS n0 s S →
    drawGo P cf N ops slots bs l i recs s = some (recs', s') → ∃ S', drawGo P cf N ops slots bs l i recs S = some (recs', S') ∧ SubS n0 s' S'
  | [], i, recs, recs', s, S, s', _, h, e => by cases e; exact ⟨S, rfl, h⟩
  | o :: l, i, recs, recs', s, S, s', hi, h, e => by
    unfold drawGo at e ⊢
    simp only at e ⊢
    rw [h.tmps]
    split at e
    · rename_i ht
      rw [if_pos ht]
      split at e
      · cases e
      · exact drawGo_mono hsl l (i + 1) _ recs' _ _ s' (by simp at hi; omega) (h.tmp _) e
      · split at e
        · cases e
        · rename_i v h' ws r hop
          have hs := hsl i (by simp at hi; omega)
          obtain ⟨H', k1, k2⟩ := drawOp_mono hcf hs h.heap h.le hop
          rw [k1]
          simp only []
          exact drawGo_mono hsl l (i + 1) _ recs' _ _ s' (by simp at hi; omega) (h.step (slot := some (slots.getD i 0)) (fun k hk => by cases hk; exact hs) (drawOp_fr hfr hop) (drawOp_fr hfr k1) k2) e
    · cases e

theorem absDraw_mono {N : Nat} {ops : Array Oper} {s S s' : St} (h : SubS n0 s S) (e : absDraw P cf N ops s = some s') : ∃ S', absDraw P cf N ops S = some S' ∧ SubS n0 s' S' := by
  unfold absDraw at e ⊢
  simp only at e ⊢
  split at e
  · rename_i hc
    rw [if_pos hc]
    split at e
    · cases e
    · rename_i recs s1 hg
      split at e
      · rename_i hp
        cases e
        have hsub : SubS n0 { s with heap := s.heap ++ List.replicate (slotCount ops.toList) none } { S with heap := S.heap ++ List.replicate (slotCount ops.toList) none } := by
          refine ⟨h.tmps, h.ws, h.heap.push _, fun id hid => ?_, by have := h.le; simp; omega⟩
          simp only
          rcases Nat.lt_or_ge id s.heap.length with hl | hl
          · rw [List.getElem?_append_left hl, List.getElem?_append_left (by rw [← h.heap.1]; exact hl)]
            exact h.same id hid
          · rw [List.getElem?_append_right hl, List.getElem?_append_right (by rw [← h.heap.1]; exact hl), h.heap.1]
        obtain ⟨S', k1, k2⟩ := drawGo_mono hcf hfr (n0 := n0) (fun i hi => Nat.le_trans h.le (slotsOf_ge ops.toList s.heap.length i (by simpa using hi))) ops.toList 0 [] recs _ _ s' (by simp) hsub hg
        rw [← h.heap.1, k1]
        simp only []
        rw [if_pos hp]
        exact ⟨S', rfl, k2⟩
      · cases e
  · cases e

omit hcf hfr in
theorem iter_mono {nn : Nat} {f : St → Option (AX × St)} (hf : ∀ s S x s', nn ≤ s.heap.length → SubS n0 s S → f s = some (x, s') → ∃ S', f S = some (x, S') ∧ SubS n0 s' S') (hfr : ∀ s x s', nn ≤ s.heap.length → f s = some (x, s') → nn ≤ s'.heap.length) :
    ∀ (n : Nat) (s S : St) (x : AX) (s' : St), nn ≤ s.heap.length → SubS n0 s S → iter f n s = some (x, s') → ∃ S', iter f n S = some (x, S') ∧ SubS n0 s' S'
  | 0, s, S, x, s', _, _, e => by cases e
  | n + 1, s, S, x, s', hl, h, e => by
    unfold iter at e ⊢
    cases hfs : f s with
    | none => rw [hfs] at e; cases e
    | some r =>
      obtain ⟨y, s1⟩ := r
      rw [hfs] at e
      obtain ⟨S1, k1, k2⟩ := hf s S y s1 hl h hfs
      rw [k1]
      cases y with
      | normal => exact iter_mono hf hfr n s1 S1 x s' (hfr _ _ _ hl hfs) k2 e
      | exit i => cases e; exact ⟨S1, rfl, k2⟩
      | goto i => cases e; exact ⟨S1, rfl, k2⟩
      | ret => cases e; exact ⟨S1, rfl, k2⟩

omit hcf hfr in
theorem atR_mono {nn : Nat} (hnn : n0 ≤ nn) {K : List (Nat × Kd)} {id : Nat} {s S : St} (hl : nn ≤ s.heap.length) (h : SubS n0 s S) : SubS n0 (atR nn K id s) (atR nn K id S) := by
  unfold atR
  split
  · refine tidy_mono (s := ⟨killT id K s.tmps, s.heap, s.ws⟩) (S := ⟨killT id K S.tmps, S.heap, S.ws⟩) hnn hl ⟨?_, h.ws, h.heap, h.same, h.le⟩
    rw [h.tmps]
  · exact h

omit hcf hfr in
theorem rangeGo_mono {nn : Nat} {f : List V → St → Option (AX × St)} (hf : ∀ v s S x s', nn ≤ s.heap.length → SubS n0 s S → f v s = some (x, s') → ∃ S', f v S = some (x, S') ∧ SubS n0 s' S') (hfr : ∀ v s x s', nn ≤ s.heap.length → f v s = some (x, s') → nn ≤ s'.heap.length) :
    ∀ (xs : List (List V)) (s S : St) (x : AX) (s' : St), nn ≤ s.heap.length → SubS n0 s S → rangeGo f xs s = some (x, s') → ∃ S', rangeGo f xs S = some (x, S') ∧ SubS n0 s' S'
  | [], s, S, x, s', _, h, e => by cases e; exact ⟨S, rfl, h⟩
  | v :: xs, s, S, x, s', hl, h, e => by
    unfold rangeGo at e ⊢
    cases hfs : f v s with
    | none => rw [hfs] at e; cases e
    | some r =>
      obtain ⟨y, s1⟩ := r
      rw [hfs] at e
      obtain ⟨S1, k1, k2⟩ := hf v s S y s1 hl h hfs
      rw [k1]
      cases y with
      | normal => exact rangeGo_mono hf hfr xs s1 S1 x s' (hfr _ _ _ _ hl hfs) k2 e
      | exit i => cases e; exact ⟨S1, rfl, k2⟩
      | goto i => cases e; exact ⟨S1, rfl, k2⟩
      | ret => cases e; exact ⟨S1, rfl, k2⟩

omit hcf hfr in
theorem roundR_mono {N nn : Nat} (hnn : n0 ≤ nn) {K : List (Nat × Kd)} {ps : List Nat} {fa fb : St → Option (AX × St)}
    (ha : ∀ s S x s', nn ≤ s.heap.length → SubS n0 s S → fa s = some (x, s') → ∃ S', fa S = some (x, S') ∧ SubS n0 s' S')
    (hb : ∀ s S x s', nn ≤ s.heap.length → SubS n0 s S → fb s = some (x, s') → ∃ S', fb S = some (x, S') ∧ SubS n0 s' S')
    (fra : ∀ s x s', nn ≤ s.heap.length → fa s = some (x, s') → nn ≤ s'.heap.length) (frb : ∀ s x s', nn ≤ s.heap.length → fb s = some (x, s') → nn ≤ s'.heap.length) :
    ∀ v s S x s', nn ≤ s.heap.length → SubS n0 s S → roundR N nn K ps fa fb v s = some (x, s') → ∃ S', roundR N nn K ps fa fb v S = some (x, S') ∧ SubS n0 s' S' := by
  intro v s S x s' hl h e
  unfold roundR at e ⊢
  have h0 : SubS n0 ⟨setAll N ps v s.tmps, s.heap, s.ws⟩ ⟨setAll N ps v S.tmps, S.heap, S.ws⟩ := ⟨by rw [h.tmps], h.ws, h.heap, h.same, h.le⟩
  cases h1 : fa ⟨setAll N ps v s.tmps, s.heap, s.ws⟩ with
  | none => rw [h1] at e; cases e
  | some r =>
    obtain ⟨y, s1⟩ := r
    rw [h1] at e
    obtain ⟨S1, k1, k2⟩ := ha ⟨setAll N ps v s.tmps, s.heap, s.ws⟩ ⟨setAll N ps v S.tmps, S.heap, S.ws⟩ y s1 hl h0 h1
    rw [k1]
    cases y with
    | normal =>
      simp only at e ⊢
      have hl1 := fra ⟨setAll N ps v s.tmps, s.heap, s.ws⟩ _ _ hl h1
      cases h2 : fb s1 with
      | none => rw [h2] at e; cases e
      | some r2 =>
        obtain ⟨z, s2⟩ := r2
        rw [h2] at e
        obtain ⟨S2, q1, q2⟩ := hb s1 S1 z s2 hl1 k2 h2
        have hl2 := frb _ _ _ hl1 h2
        rw [q1]
        have back : SubS n0 ⟨s.tmps, s2.heap, s2.ws⟩ ⟨S.tmps, S2.heap, S2.ws⟩ := ⟨h.tmps, q2.ws, q2.heap, q2.same, q2.le⟩
        cases z with
        | normal => cases e; exact ⟨_, rfl, tidy_mono (s := ⟨s.tmps, s2.heap, s2.ws⟩) (S := ⟨S.tmps, S2.heap, S2.ws⟩) hnn hl2 back⟩
        | exit i => cases e; exact ⟨_, rfl, back⟩
        | goto i => cases e; exact ⟨_, rfl, back⟩
        | ret => cases e; exact ⟨_, rfl, back⟩
    | exit i => cases e
    | goto i => cases e
    | ret => cases e

theorem absCode_mono {N n nn : Nat} (hnn : n0 ≤ nn) {K : List (Nat × Kd)} {sc : Code → Code → St → Option (AX × St)} (hsc : ∀ c cur s S x s', nn ≤ s.heap.length → SubS n0 s S → sc c cur s = some (x, s') → ∃ S', sc c cur S = some (x, S') ∧ SubS n0 s' S') (hscf : ScFr nn sc) (c : Code) :
    ∀ (s S : St) (x : AX) (s' : St), nn ≤ s.heap.length → SubS n0 s S → absCode P cf sc n N nn K c s = some (x, s') → ∃ S', absCode P cf sc n N nn K c S = some (x, S') ∧ SubS n0 s' S' := by
  have fr : ∀ (c : Code) {s : St} {x : AX} {s' : St}, nn ≤ s.heap.length → absCode P cf sc n N nn K c s = some (x, s') → nn ≤ s'.heap.length := fun c {s x s'} h e => (absCode_fr hfr hscf c s x s' h e).1 h
  induction c with
  | skip => intro s S x s' hl h e; cases e; exact ⟨S, rfl, h⟩
  | region id ops draw =>
    intro s S x s' hl h e
    cases draw with
    | false =>
      simp only [absCode] at e ⊢
      obtain ⟨s1, e1, e2⟩ := Option.map_eq_some_iff.1 e
      cases e2
      obtain ⟨S', k1, k2⟩ := absOps_mono hcf hfr _ s S s1 h e1
      exact ⟨atR nn K id S', by rw [k1]; rfl, atR_mono hnn ((absOps_fr hfr _ s s1 hl e1).1 hl) k2⟩
    | true =>
      simp only [absCode] at e ⊢
      obtain ⟨s1, e1, e2⟩ := Option.map_eq_some_iff.1 e
      cases e2
      obtain ⟨S', k1, k2⟩ := absDraw_mono hcf hfr h e1
      exact ⟨atR nn K id S', by rw [k1]; rfl, atR_mono hnn ((absDraw_fr hfr hl e1).1 hl) k2⟩
  | seq a b ih1 ih2 =>
    intro s S x s' hl h e
    simp only [absCode] at e ⊢
    cases h1 : absCode P cf sc n N nn K a s with
    | none => rw [h1] at e; cases e
    | some r =>
      obtain ⟨y, s1⟩ := r
      rw [h1] at e
      obtain ⟨S1, k1, k2⟩ := ih1 s S y s1 hl h h1
      rw [k1]
      cases y with
      | normal => exact ih2 s1 S1 x s' (fr a hl h1) k2 e
      | exit i => cases e; exact ⟨S1, rfl, k2⟩
      | goto i => cases e; exact ⟨S1, rfl, k2⟩
      | ret => cases e; exact ⟨S1, rfl, k2⟩
  | cond c a b ih1 ih2 =>
    intro s S x s' hl h e
    simp only [absCode] at e ⊢
    rw [h.tmps]
    split at e
    · exact ih1 s S x s' hl h e
    · exact ih2 s S x s' hl h e
    · cases e
  | block id c ih =>
    intro s S x s' hl h e
    simp only [absCode] at e ⊢
    cases h1 : absCode P cf sc n N nn K c s with
    | none => rw [h1] at e; cases e
    | some r =>
      obtain ⟨y, s1⟩ := r
      rw [h1] at e
      obtain ⟨S1, k1, k2⟩ := ih s S y s1 hl h h1
      rw [k1]
      cases y with
      | normal => cases e; exact ⟨S1, rfl, k2⟩
      | exit i =>
        simp only at e ⊢
        split at e
        · rename_i hi; rw [if_pos hi]; cases e; exact ⟨S1, rfl, k2⟩
        · rename_i hi; rw [if_neg hi]; cases e; exact ⟨S1, rfl, k2⟩
      | goto i => cases e; exact ⟨S1, rfl, k2⟩
      | ret => cases e; exact ⟨S1, rfl, k2⟩
  | loop c ih =>
    intro s S x s' hl h e
    simp only [absCode] at e ⊢
    have t1 := tidy_fr (K := K) hl
    refine iter_mono (nn := nn) (f := fun s => tidyR nn K (absCode P cf sc n N nn K c s)) ?_ ?_ n _ _ x s' (t1.1 hl) (tidy_mono hnn hl h) e
    · intro s1 S1 y s2 hl1 h1 h2
      obtain ⟨s3, h3, rfl⟩ := tidyR_some h2
      obtain ⟨S3, k1, k2⟩ := ih s1 S1 y s3 hl1 h1 h3
      exact ⟨tidy nn K S3, by rw [k1]; rfl, tidy_mono hnn (fr c hl1 h3) k2⟩
    · intro s1 y s2 hl1 h2
      obtain ⟨s3, h3, rfl⟩ := tidyR_some h2
      exact (tidy_fr (fr c hl1 h3)).1 (fr c hl1 h3)
  | rangeFunc f ps as body ih1 ih2 =>
    intro s S x s' hl h e
    simp only [absCode] at e ⊢
    rw [h.tmps]
    split at e
    · rename_i xs hx
      have t1 := tidy_fr (K := K) hl
      refine rangeGo_mono (roundR_mono hnn ih1 ih2 (fun s x s' h e => fr as h e) (fun s x s' h e => fr body h e)) ?_ xs _ _ x s' (t1.1 hl) (tidy_mono hnn hl h) e
      intro v s1 y s2 hl1 h2
      exact (roundR_fr (absCode_fr hfr hscf as) (absCode_fr hfr hscf body) v s1 y s2 hl1 h2).1 hl1
    · cases e
  | exit id => intro s S x s' hl h e; cases e; exact ⟨S, rfl, h⟩
  | scope c ih =>
    intro s S x s' hl h e
    simp only [absCode] at e ⊢
    cases h1 : absCode P cf sc n N nn K c s with
    | none => rw [h1] at e; cases e
    | some r =>
      obtain ⟨y, s1⟩ := r
      rw [h1] at e
      obtain ⟨S1, k1, k2⟩ := ih s S y s1 hl h h1
      rw [k1]
      cases y with
      | normal => cases e; exact ⟨S1, rfl, k2⟩
      | exit i => cases e; exact ⟨S1, rfl, k2⟩
      | goto i =>
        simp only at e ⊢
        split at e
        · exact hsc _ _ s1 S1 x s' (fr c hl h1) k2 e
        · cases e; exact ⟨S1, rfl, k2⟩
      | ret => cases e; exact ⟨S1, rfl, k2⟩
  | label l => intro s S x s' hl h e; cases e; exact ⟨S, rfl, h⟩
  | goto l => intro s S x s' hl h e; cases e; exact ⟨S, rfl, h⟩
  | ret => intro s S x s' hl h e; cases e; exact ⟨S, rfl, h⟩
  | refuse why => intro s S x s' hl h e; simp [absCode] at e

theorem absScope_mono {N n nn : Nat} (hnn : n0 ≤ nn) {K : List (Nat × Kd)} : ∀ m c cur s S x s', nn ≤ s.heap.length → SubS n0 s S → absScope P cf n N nn K m c cur s = some (x, s') → ∃ S', absScope P cf n N nn K m c cur S = some (x, S') ∧ SubS n0 s' S'
  | 0, c, cur, s, S, x, s', _, _, e => by cases e
  | m + 1, c, cur, s, S, x, s', hl, h, e => by
    simp only [absScope] at e ⊢
    cases h1 : absCode P cf (absScope P cf n N nn K m) n N nn K cur s with
    | none => rw [h1] at e; cases e
    | some r =>
      obtain ⟨y, s1⟩ := r
      rw [h1] at e
      obtain ⟨S1, k1, k2⟩ := absCode_mono hcf hfr hnn (absScope_mono hnn m) (absScope_fr hfr m) cur s S y s1 hl h h1
      rw [k1]
      cases y with
      | normal => cases e; exact ⟨S1, rfl, k2⟩
      | exit i => cases e; exact ⟨S1, rfl, k2⟩
      | goto i =>
        simp only at e ⊢
        split at e
        · exact absScope_mono hnn m _ _ s1 S1 x s' ((absCode_fr hfr (absScope_fr hfr m) cur s _ s1 hl h1).1 hl) k2 e
        · cases e; exact ⟨S1, rfl, k2⟩
      | ret => cases e; exact ⟨S1, rfl, k2⟩

end

section
variable {n0 nn : Nat} {h H : Heap}

theorem resOf_mono (s : Sub n0 h H) {P : Program} {t : Tmps} : ∀ (rs : List ResultVar) (vs : List V), resOf P t h rs = some vs → resOf P t H rs = some vs
  | [], vs, e => e
  | .tmp x :: rs, vs, e => by
    simp only [resOf] at e ⊢
    split at e
    · cases e
    · rename_i vs' h1; rw [resOf_mono s rs vs' h1]; exact e
  | .cell x ty :: rs, vs, e => by
    simp only [resOf] at e ⊢
    split at e
    · rename_i l g n hl hg hn
      split at e
      · cases e
      · rename_i cs hcs
        rw [rd_mono s hcs]
        (try simp only [])
        split at e
        · rename_i v' vs' hv' hvs'
          rw [hv', resOf_mono s rs vs' hvs']; exact e
        · cases e
    · cases e
end

section
variable {n0 nn : Nat} {h H : Heap}

theorem fzL_sub (s : Sub n0 h H) (L : List (Option Nat)) : ∀ (k : Nat) (l l' : Leaf), fzL h nn L k l = some l' → fzL H nn L k l = some l'
  | 0, l, l', e => by cases e
  | k + 1, l, l', e => by
    have ih := fzL_sub s L k
    have up : ∀ {α β : Type} {f g : α → Option β}, (∀ x y, f x = some y → g x = some y) → ∀ (xs : List α) (ys : List β), mapO f xs = some ys → mapO g xs = some ys := by
      intro α β f g hfg xs
      induction xs with
      | nil => intro ys h; exact h
      | cons x xs ih =>
        intro ys h
        unfold mapO at h ⊢
        split at h
        · cases h
        · rename_i y hy
          split at h
          · cases h
          · rename_i ys' hys
            rw [hfg x y hy, ih _ hys]; exact h
    have hrow : ∀ {id sz r}, rowAt h id sz = some r → rowAt H id sz = some r := by
      intro id sz r hr
      obtain ⟨h1, h2⟩ := rowAt_some hr
      have := s.alive h1
      simp only [rowAt, this, h2, if_true]
    cases l
    case sl id esz sz off len =>
      simp only [fzL] at e ⊢
      split at e
      · rename_i hg
        rw [if_pos hg]
        split at e
        · cases e
        · rename_i r hr
          rw [hrow hr]
          simp only
          split at e
          · rename_i hc
            rw [if_pos hc]
            obtain ⟨es, e1, e2⟩ := Option.map_eq_some_iff.1 e
            rw [up (up ih) _ _ e1]; exact congrArg some e2
          · cases e
      · cases e
    case ptr id sz i off =>
      simp only [fzL] at e ⊢
      split at e
      · rename_i hg
        rw [if_pos hg]
        split at e
        · cases e
        · rename_i r hr
          rw [hrow hr]
          simp only
          split at e
          · cases e
          · rename_i cs hcs
            obtain ⟨es, e1, e2⟩ := Option.map_eq_some_iff.1 e
            simp only [hcs, up ih _ _ e1, Option.map_some, e2]
      · cases e
    case fn f caps =>
      simp only [fzL] at e ⊢
      obtain ⟨es, e1, e2⟩ := Option.map_eq_some_iff.1 e
      rw [up ih _ _ e1]; exact congrArg some e2
    case map id =>
      simp only [fzL] at e ⊢
      split at e
      · rename_i hg
        rw [if_pos hg]
        split at e
        · rename_i ck es hes
          rw [s.alive hes]
          exact fzMapM_up ih e
        · cases e
      · cases e
    all_goals exact e

theorem mapO_up {α β : Type} {f g : α → Option β} (hfg : ∀ x y, f x = some y → g x = some y) : ∀ (xs : List α) (ys : List β), mapO f xs = some ys → mapO g xs = some ys
  | [], ys, h => h
  | x :: xs, ys, h => by
    unfold mapO at h ⊢
    split at h
    · cases h
    · rename_i y hy
      split at h
      · cases h
      · rename_i ys' hys
        rw [hfg x y hy, mapO_up hfg xs _ hys]; exact h

theorem fzT_sub (s : Sub n0 h H) (L : List (Option Nat)) (l l' : Leaf) (e : fzT h nn L l = some l') : fzT H nn L l = some l' := by
  have hR : ∀ l l', fzR h nn L l = some l' → fzR H nn L l = some l' := by
    intro l l' e
    unfold fzR at e ⊢
    split at e
    · rename_i hs; rw [if_pos hs]; exact e
    · rename_i hs
      rw [if_neg hs]
      split at e
      · exact fzL_sub s L 40 _ _ e
      · split at e
        · rename_i hp; (try simp only [hp]); exact fzL_sub s L 40 _ _ e
        · rename_i hp; (try simp only [hp]); exact e
  cases l
  case fn f caps =>
    simp only [fzT] at e ⊢
    obtain ⟨es, e1, e2⟩ := Option.map_eq_some_iff.1 e
    rw [mapO_up hR _ _ e1]; exact congrArg some e2
  all_goals exact hR _ _ e

theorem fzV_sub (s : Sub n0 h H) (L : List (Option Nat)) (v v' : V) (e : fzV h nn L v = some v') : fzV H nn L v = some v' := by
  have h0 : ∀ v v', fzV0 h nn L v = some v' → fzV0 H nn L v = some v' := by
    intro v v' e
    cases v with
    | junk => exact e
    | tup _ => exact e
    | one l =>
      simp only [fzV0] at e ⊢
      obtain ⟨x, e1, e2⟩ := Option.map_eq_some_iff.1 e
      rw [fzT_sub s L _ _ e1]; exact congrArg some e2
    | agg cs =>
      simp only [fzV0] at e ⊢
      obtain ⟨x, e1, e2⟩ := Option.map_eq_some_iff.1 e
      rw [mapO_up (fzT_sub s L) _ _ e1]; exact congrArg some e2
  cases v with
  | tup vs =>
    simp only [fzV] at e ⊢
    obtain ⟨x, e1, e2⟩ := Option.map_eq_some_iff.1 e
    rw [mapO_up h0 _ _ e1]; exact congrArg some e2
  | junk => exact h0 .junk _ e
  | one l => exact h0 (.one l) _ e
  | agg cs => exact h0 (.agg cs) _ e

end

theorem cfR_mono {rd : FuncId → Bool} {cf : CF} (hcf : CFMono cf) : CFMono (cfR rd cf) := by
  intro n0 f args h H v h' ws s hn e
  rcases cfR_some e with ⟨hr, e1⟩ | ⟨hr, as, v1, h1, ws1, e1, e2, e3, e4⟩
  · obtain ⟨H', k1, k2⟩ := hcf n0 f args h H v h' ws s hn e1
    exact ⟨H', by unfold cfR; rw [hr]; exact k1, k2⟩
  · cases e4
    refine ⟨H, ?_, s, fun id hid => by simp at hid⟩
    unfold cfR
    rw [hr]
    simp only [mapO_up (fzV_sub s []) _ _ e1, e2, e3, if_true]

theorem absCall_mono {P : Program} {C : Cfg} (hfr : ∀ n, CFFr (absCall P C n)) : ∀ n, CFMono (absCall P C n)
  | 0 => fun n0 f args h H v h' ws _ _ e => by cases e
  | n + 1 => fun n0 f args h H v h' ws s hn e => by
    have ih := cfR_mono (rd := C.read) (absCall_mono hfr n)
    have hfr := fun n => cfR_fr (rd := C.read) (hfr n)
    cases ht : C.told f args with
    | some v0 =>
      simp only [absCall, ht] at e ⊢
      cases e
      exact ⟨H, rfl, s, fun id hid => by simp at hid⟩
    | none =>
    simp only [absCall, ht] at e ⊢
    split at e
    · cases e
    · rename_i fn hfn
      split at e
      · cases e
      · rename_i body hb
        have fin : ∀ {x : AX} {s1 : St}, absCode P (cfR C.read (absCall P C n)) (absScope P (cfR C.read (absCall P C n)) n (max fn.ntmps args.length) h.length (C.live f) n) n (max fn.ntmps args.length) h.length (C.live f) body ⟨argT 0 args, h, []⟩ = some (x, s1) →
            (resOf P s1.tmps s1.heap fn.results.toList).map (fun vs => wrapUp (C.keep f) h.length (resV vs) s1.heap s1.ws) = some (v, h', ws) →
            ∃ S1, absCode P (cfR C.read (absCall P C n)) (absScope P (cfR C.read (absCall P C n)) n (max fn.ntmps args.length) H.length (C.live f) n) n (max fn.ntmps args.length) H.length (C.live f) body ⟨argT 0 args, H, []⟩ = some (x, S1) ∧
              ∃ H', (resOf P S1.tmps S1.heap fn.results.toList).map (fun vs => wrapUp (C.keep f) H.length (resV vs) S1.heap S1.ws) = some (v, H', ws) ∧ SubR n0 ws h' H' := by
          intro x s1 hs e1
          have hsub : SubS n0 ⟨argT 0 args, h, []⟩ ⟨argT 0 args, H, []⟩ := ⟨rfl, rfl, s, fun id hid => by simp at hid, hn⟩
          rw [← s.1]
          obtain ⟨S1, k1, k2⟩ := absCode_mono ih (hfr n) hn (absScope_mono ih (hfr n) hn n) (absScope_fr (hfr n) n) body _ _ x s1 (Nat.le_refl _) hsub hs
          have hf := absCode_fr (hfr n) (n0 := h.length) (absScope_fr (hfr n) n) body _ _ _ (Nat.le_refl _) hs
          obtain ⟨rs, e2, e3⟩ := Option.map_eq_some_iff.1 e1
          have e4 : resOf P S1.tmps S1.heap fn.results.toList = some rs := by rw [k2.tmps]; exact resOf_mono k2.heap _ _ e2
          obtain ⟨w1, w2, w3, w4⟩ := wrapUp_mono (n0 := n0) (nn := h.length) hn (hf.1 (Nat.le_refl _)) k2.heap (resV rs) (ws := s1.ws) k2.same (C.keep f)
          refine ⟨S1, k1, (wrapUp (C.keep f) h.length (resV rs) S1.heap s1.ws).2.1, ?_, ?_⟩
          · rw [e4, Option.map_some, k2.ws]
            rw [e3] at w1 w2
            simp only at w1 w2
            rw [← w1, ← w2]
          · rw [e3] at w3 w4
            exact ⟨w3, w4⟩
        split at e
        · rename_i s1 hs
          obtain ⟨S1, k1, H', k2, k3⟩ := fin hs e
          refine ⟨H', ?_, k3⟩
          rw [k1]; exact k2
        · rename_i s1 hs
          obtain ⟨S1, k1, H', k2, k3⟩ := fin hs e
          refine ⟨H', ?_, k3⟩
          rw [k1]; exact k2
        · cases e
end Go.Proofs.YtkbdhjfjbkmkcaaGreat.Abs
