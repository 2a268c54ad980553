/- The abstract machine: what a call made may be told as trees; what is kept stands in new places. -/
import Derived.Test.YtkbdhjfjbkmkcaaGreatJT12
set_option linter.unusedSimpArgs false
set_option linter.unusedVariables false
namespace Go.Proofs.YtkbdhjfjbkmkcaaGreat.Abs
open Go Go.RowKit

theorem mapO_some {α β : Type} {f : α → Option β} : ∀ {xs : List α} {ys : List β}, mapO f xs = some ys → ys.length = xs.length ∧ ∀ (i : Nat) (x : α), xs[i]? = some x → ∃ y, ys[i]? = some y ∧ f x = some y
  | [], ys, e => by cases e; exact ⟨rfl, fun i x h => by simp at h⟩
  | x :: xs, ys, e => by
    unfold mapO at e
    split at e
    · cases e
    · rename_i y hy
      split at e
      · cases e
      · rename_i ys' hys
        cases e
        obtain ⟨h1, h2⟩ := mapO_some hys
        refine ⟨by simp [h1], fun i x' h => ?_⟩
        cases i with
        | zero => simp at h; subst h; exact ⟨y, by simp, hy⟩
        | succ i => simpa using h2 i x' (by simpa using h)

theorem mapO_get {f : Leaf → Option Leaf} {xs ys : List Leaf} (h : mapO f xs = some ys) {j : Nat} (hj : j < xs.length) : f (xs.getD j .junk) = some (ys.getD j .junk) := by
  obtain ⟨y, h1, h2⟩ := (mapO_some h).2 j _ (List.getElem?_eq_getElem hj)
  simpa [List.getD, hj, h1] using h2

theorem mapO_get2 {f : Leaf → Option Leaf} {xs ys : List (List Leaf)} (h : mapO (mapO f) xs = some ys) {i : Nat} (hi : i < xs.length) : mapO f (xs.getD i []) = some (ys.getD i []) := by
  obtain ⟨y, h1, h2⟩ := (mapO_some h).2 i _ (List.getElem?_eq_getElem hi)
  simpa [List.getD, hi, h1] using h2

structure ExtN (n0 : Nat) (M M' : Mem) : Prop where
  stab : SLe M.stab M'.stab
  hist : ∀ id sz hb, id < n0 → M.hist id sz = some hb → M'.hist id sz = some hb
  mp : ∀ id r, id < n0 → M.mp id = some r → M'.mp id = some r
  lim : M.lim ≤ M'.lim ∨ n0 ≤ M'.lim

theorem ExtN.refl (n0 : Nat) (M : Mem) : ExtN n0 M M := ⟨SLe.refl _, fun _ _ _ _ h => h, fun _ _ _ h => h, .inl (Nat.le_refl _)⟩
theorem ExtN.trans {n0 : Nat} {A B C : Mem} (h : ExtN n0 A B) (k : ExtN n0 B C) : ExtN n0 A C :=
  ⟨h.stab.trans k.stab, fun i s b l x => k.hist i s b l (h.hist i s b l x), fun i r l x => k.mp i r l (h.mp i r l x), by have := h.lim; have := k.lim; omega⟩
theorem Ext.below {n0 : Nat} {A B : Mem} (h : Ext A B) : ExtN n0 A B := ⟨h.stab, fun i s b _ => h.hist i s b, fun i r _ => h.mp i r, .inl h.lim⟩
theorem ExtN.full {B n0 : Nat} {M M1 : Mem} {H : Heap} {w : World} (h : ExtN n0 M M1) (h0 : Inv B M H w) (hn : H.length = n0) : Ext M M1 := by
  have lt : ∀ {id : Nat} {o : Option AO}, H[id]? = some o → id < n0 := fun h => by rw [← hn]; exact (List.getElem?_eq_some_iff.1 h).1
  refine ⟨h.stab, fun id sz hb x => ?_, fun id r x => ?_, ?_⟩
  · obtain ⟨_, _, g, _⟩ := h0.histH _ _ _ x; exact h.hist _ _ _ (lt g) x
  · obtain ⟨_, _, g⟩ := h0.mpH _ _ x; exact h.mp _ _ (lt g) x
  · have := h0.lim; have := h.lim; omega

theorem placeAt_some {id : Nat} : ∀ {L : List (Option Nat)} {n p : Nat}, placeAt id L n = some p → n ≤ p ∧ p < n + L.length ∧ L[p - n]? = some (some id)
  | [], n, p, e => by cases e
  | o :: r, n, p, e => by
    unfold placeAt at e
    have rest : placeAt id r (n + 1) = some p → n ≤ p ∧ p < n + (o :: r).length ∧ (o :: r)[p - n]? = some (some id) := by
      intro h
      obtain ⟨h1, h2, h3⟩ := placeAt_some h
      refine ⟨by omega, by simp; omega, ?_⟩
      rw [show p - n = (p - (n + 1)) + 1 by omega, List.getElem?_cons_succ]; exact h3
    split at e
    · exact rest e
    · split at e
      · rename_i k hk; subst hk; cases e; exact ⟨Nat.le_refl _, by simp, by simp⟩
      · exact rest e

theorem placeAt_none {id : Nat} : ∀ {L : List (Option Nat)} {n : Nat}, placeAt id L n = none → some id ∉ L
  | [], n, e => by simp
  | o :: r, n, e => by
    unfold placeAt at e
    split at e
    · simp [placeAt_none e]
    · split at e
      · cases e
      · rename_i k hk; simp only [List.mem_cons, Option.some.injEq, not_or]; exact ⟨Ne.symm hk, placeAt_none e⟩

theorem placeOf_some {id : Nat} {L : List (Option Nat)} {n p : Nat} (e : placeOf id L n = some p) : n ≤ p ∧ p < n + L.length ∧ L[p - n]? = some (some id) := by
  unfold placeOf at e
  split at e
  · cases e
  · rename_i k hk
    cases e
    obtain ⟨_, h2, h3⟩ := placeAt_some hk
    exact ⟨Nat.le_add_right _ _, by omega, by rw [Nat.add_sub_cancel_left]; simpa using h3⟩

theorem placeOf_none {id : Nat} {L : List (Option Nat)} {n : Nat} (e : placeOf id L n = none) : some id ∉ L := by
  unfold placeOf at e
  split at e
  · rename_i h; exact placeAt_none h
  · cases e

theorem okL_some {n0 : Nat} : ∀ {L : List (Option Nat)}, okL n0 L = true → (∀ id, some id ∈ L → n0 ≤ id) ∧ ∀ (p q id : Nat), L[p]? = some (some id) → L[q]? = some (some id) → p = q
  | [], _ => ⟨by simp, by simp⟩
  | none :: r, h => by
    obtain ⟨h1, h2⟩ := okL_some (L := r) h
    refine ⟨fun id hid => h1 id (by simpa using hid), fun p q id hp hq => ?_⟩
    cases p with
    | zero => simp at hp
    | succ p =>
      cases q with
      | zero => simp at hq
      | succ q => rw [h2 p q id (by simpa using hp) (by simpa using hq)]
  | some k :: r, h => by
    simp only [okL, Bool.and_eq_true, decide_eq_true_eq, Bool.not_eq_true'] at h
    obtain ⟨h1, h2⟩ := okL_some (L := r) h.2
    have hn : some k ∉ r := by have := h.1.2; simpa using this
    refine ⟨fun id hid => ?_, fun p q id hp hq => ?_⟩
    · rcases List.mem_cons.1 hid with h3 | h3
      · cases h3; exact h.1.1
      · exact h1 id h3
    · cases p with
      | zero =>
        simp at hp; subst hp
        cases q with
        | zero => rfl
        | succ q => exact (hn (List.mem_of_getElem? (by simpa using hq))).elim
      | succ p =>
        cases q with
        | zero => simp at hq; subst hq; exact (hn (List.mem_of_getElem? (by simpa using hp))).elim
        | succ q => rw [h2 p q id (by simpa using hp) (by simpa using hq)]

section
variable {B n0 : Nat} {L : List (Option Nat)} {M M1 : Mem} {H H1 : Heap} {w w1 : World}

def Stays (n0 : Nat) (L : List (Option Nat)) (id : Nat) : Prop := id < n0 ∨ some id ∈ L

def LiveB (n0 : Nat) (L : List (Option Nat)) (M1 : Mem) (H1 : Heap) (b : Nat) : Prop :=
  ∃ id esz elems hb, Stays n0 L id ∧ H1[id]? = some (some (.row esz elems)) ∧ M1.hist id elems.length = some hb ∧ hb.blk = b

def LiveM (n0 : Nat) (L : List (Option Nat)) (M1 : Mem) (r : Nat) : Prop := ∃ id, Stays n0 L id ∧ M1.mp id = some r

open Classical in
noncomputable def cutMem (n0 : Nat) (L : List (Option Nat)) (M1 : Mem) (H1 : Heap) (w1 : World) : Mem where
  stab := ⟨fun b => match w1.heap[b]? with
    | some (.cells arr _ _) => if LiveB n0 L M1 H1 b then M1.stab b else some arr
    | _ => none, fun r => match w1.heap[r]? with
    | some (.map ms _) => if LiveM n0 L M1 r then M1.stab.m r else some ms
    | _ => none⟩
  hist := fun id sz => if id < n0 then M1.hist id sz else match L[id - n0]? with
    | some (some k) => M1.hist k sz
    | _ => none
  mp := fun id => if id < n0 then M1.mp id else match L[id - n0]? with
    | some (some k) => M1.mp k
    | _ => none
  lim := n0 + L.length

theorem cut_hist_lt {id : Nat} (h : id < n0) (sz : Nat) : (cutMem n0 L M1 H1 w1).hist id sz = M1.hist id sz := by simp [cutMem, h]
theorem cut_mp_lt {id : Nat} (h : id < n0) : (cutMem n0 L M1 H1 w1).mp id = M1.mp id := by simp [cutMem, h]
theorem cut_hist_at {p k : Nat} (h : n0 ≤ p) (hp : L[p - n0]? = some (some k)) (sz : Nat) : (cutMem n0 L M1 H1 w1).hist p sz = M1.hist k sz := by
  simp only [cutMem]; rw [if_neg (by omega), hp]
theorem cut_mp_at {p k : Nat} (h : n0 ≤ p) (hp : L[p - n0]? = some (some k)) : (cutMem n0 L M1 H1 w1).mp p = M1.mp k := by
  simp only [cutMem]; rw [if_neg (by omega), hp]

theorem live_stab (h1 : Inv B M1 H1 w1) {b : Nat} (hl : LiveB n0 L M1 H1 b) : M1.stab b = none := by
  obtain ⟨id, esz, elems, hb, _, g1, g2, rfl⟩ := hl
  obtain ⟨c, cap, arr, e, k1, _, _, k4, _⟩ := h1.rowOf g1 g2
  rw [g2] at k1; cases k1; exact k4

theorem cut_stab (h1 : Inv B M1 H1 w1) {b : Nat} {arr : Array Value} (hs : M1.stab b = some arr) : (cutMem n0 L M1 H1 w1).stab b = some arr := by
  obtain ⟨e, fr, g⟩ := h1.stab b arr hs
  have hnl : ¬ LiveB n0 L M1 H1 b := fun hl => by rw [live_stab h1 hl] at hs; cases hs
  simp [cutMem, g, hnl]

theorem cut_stabM (h1 : Inv B M1 H1 w1) {r : Nat} {ms : Array MapEntry} (hs : M1.stab.m r = some ms) : (cutMem n0 L M1 H1 w1).stab.m r = some ms := by
  obtain ⟨ck, g⟩ := h1.mstab r ms hs
  have hnl : ¬ LiveM n0 L M1 r := fun ⟨id, _, hl⟩ => by rw [h1.mpS _ _ hl] at hs; cases hs
  simp [cutMem, g, hnl]
theorem cut_sle (h1 : Inv B M1 H1 w1) : SLe M1.stab (cutMem n0 L M1 H1 w1).stab := ⟨fun _ _ h => cut_stab h1 h, fun _ _ h => cut_stabM h1 h⟩

theorem goes_some {id : Nat} (h : goes n0 L id = true) : n0 ≤ id ∧ some id ∉ L := by
  simp only [goes, Bool.and_eq_true, decide_eq_true_eq, Option.isNone_iff_eq_none] at h
  exact ⟨h.1, placeOf_none h.2⟩

theorem cut_row (h1 : Inv B M1 H1 w1) {id esz : Nat} {elems : List (List Leaf)} (hg : goes n0 L id = true) (hr : H1[id]? = some (some (.row esz elems))) {sz : Nat} {hb : HB} (hh : M1.hist id sz = some hb) :
    ∃ c cap arr, M1.hist id elems.length = some ⟨c, esz, cap⟩ ∧ (cutMem n0 L M1 H1 w1).stab c = some arr ∧ arr.size = cap * esz ∧ elems.length ≤ cap ∧ (∀ i, i < elems.length → (elems.getD i []).length = esz) ∧
      ∀ i j, i < elems.length → j < esz → VR M1 ((elems.getD i []).getD j .junk) (arr.getD (i * esz + j) undef) := by
  obtain ⟨c, cap, arr, e, k1, k2, k3, k4, k5, k6, k7, k8⟩ := h1.rowOf hr hh
  refine ⟨c, cap, arr, k1, ?_, k5, k6, k7, k8⟩
  have hnl : ¬ LiveB n0 L M1 H1 c := by
    rintro ⟨id', esz', elems', hb, hs, g1, g2, g3⟩
    have := h1.inj id' id esz' esz elems' elems hb _ g1 hr g2 k1 g3
    subst this
    have hg' := goes_some hg
    rcases hs with hs | hs
    · omega
    · exact hg'.2 hs
  simp [cutMem, k3, hnl]

theorem fzL_sound (h1 : Inv B M1 H1 w1) : ∀ (k : Nat) (l l' : Leaf) (v : Value), fzL H1 n0 L k l = some l' → VR M1 l v → PVR (cutMem n0 L M1 H1 w1).stab l' v
  | 0, l, l', v, e, _ => by cases e
  | k + 1, l, l', v, e, hv => by
    have pureC : ∀ {l : Leaf}, PVR M1.stab l v → PVR (cutMem n0 L M1 H1 w1).stab l v := fun h => h.mono (cut_sle h1)
    cases l
    case sl id esz sz off len =>
      simp only [fzL] at e
      split at e
      · rename_i hg
        split at e
        · cases e
        · rename_i r hr
          split at e
          · rename_i hc
            obtain ⟨es', e1, rfl⟩ := Option.map_eq_some_iff.1 e
            obtain ⟨g1, g2⟩ := rowAt_some hr
            rcases hv.sl_inv with ⟨rfl, rfl, rfl, rfl, _⟩ | ⟨cap, a, hb, rfl, k1, k2, k3, k4, k5, k6, k7, k8, k9⟩
            · have : es' = [] := List.eq_nil_of_length_eq_zero (by rw [(mapO_some e1).1]; simp)
              subst this; exact .islz _
            obtain ⟨c, cp, arr, q1, q2, q3, q4, q5, q6⟩ := cut_row h1 hg g1 k1
            rw [g2, k1] at q1; cases q1
            have hlen : ((r.2.drop off).take len).length = len := by simp; omega
            have hl' : es'.length = len := by rw [(mapO_some e1).1, hlen]
            have hget : ∀ i, i < len → ((r.2.drop off).take len).getD i [] = r.2.getD (off + i) [] := by
              intro i hi; simp [List.getD, List.getElem?_take, hi]
            have hm : ∀ i, i < len → mapO (fzL H1 n0 L k) (r.2.getD (off + i) []) = some (es'.getD i []) := by
              intro i hi
              have := mapO_get2 e1 (i := i) (by omega)
              rwa [hget i hi] at this
            have hz : ∀ i, i < es'.length → (es'.getD i []).length = r.1 := by
              intro i hi
              rw [(mapO_some (hm i (by omega))).1]
              exact q5 _ (by omega)
            rw [← hl']
            refine .isl es' a arr r.1 cap k4 ?_ hz ?_ (by omega)
            · rcases Nat.eq_zero_or_pos len with h0 | h0
              · left; exact List.eq_nil_of_length_eq_zero (by omega)
              · right
                have hao : a.off = off * r.1 := by
                  rw [← hc.1] at k5
                  rcases k5 with h | h <;> omega
                refine ⟨by rw [k3]; exact q2, ?_⟩
                rw [hao, q3, hl', ← Nat.add_mul]
                exact Nat.mul_le_mul_right _ (by omega)
            · intro i j hi hj
              have hao : a.off = off * r.1 := by
                rw [← hc.1] at k5
                rcases k5 with h | h <;> omega
              have hlt : j < (r.2.getD (off + i) []).length := by rw [q5 _ (by omega)]; exact hj
              have h2 := mapO_get (hm i (by omega)) hlt
              have h3 := q6 (off + i) j (by omega) hj
              rw [hao, ← Nat.add_mul]
              exact fzL_sound h1 k _ _ _ h2 h3
          · cases e
      · cases e
    case ptr id sz i off =>
      simp only [fzL] at e
      split at e
      · rename_i hg
        split at e
        · cases e
        · rename_i r hr
          split at e
          · cases e
          · rename_i cs hcs
            obtain ⟨cs', e1, rfl⟩ := Option.map_eq_some_iff.1 e
            obtain ⟨g1, g2⟩ := rowAt_some hr
            obtain ⟨hb, k1, rfl⟩ := hv.ptr_inv
            obtain ⟨c, cp, arr, q1, q2, q3, q4, q5, q6⟩ := cut_row h1 hg g1 k1
            rw [g2, k1] at q1; cases q1
            have hi : i < r.2.length := (List.getElem?_eq_some_iff.1 hcs).1
            have hcs' : r.2.getD i [] = cs := by simp [List.getD, hcs]
            have hl : cs.length = r.1 := by rw [← hcs']; exact q5 i hi
            have hl' : cs'.length = r.1 := by rw [(mapO_some e1).1, hl]
            refine .iptr cs' off c (i * r.1) arr q2 ?_ ?_
            · rw [hl', q3]
              have : (i + 1) * r.1 ≤ cp * r.1 := Nat.mul_le_mul_right _ (by omega)
              rwa [Nat.add_mul, Nat.one_mul] at this
            · intro j hj
              have h2 := mapO_get e1 (j := j) (by omega)
              have h3 := q6 i j hi (by omega)
              rw [hcs'] at h3
              exact fzL_sound h1 k _ _ _ h2 h3
      · cases e
    case map id =>
      simp only [fzL] at e
      split at e
      · rename_i hg
        split at e
        · rename_i ck es hes
          obtain ⟨r, rfl, hr⟩ := hv.map_inv
          obtain ⟨r', ms, q1, q2, q3, q4, q5⟩ := h1.mpr id ck es hes
          rw [hr] at q1; cases q1
          unfold fzMapM at e
          split at e
          · cases e
          · rename_i ks hks
            split at e
            · cases e
            · rename_i rows hrows
              cases e
              have hk1 := (mapO_some hks).1
              have hr1 := (mapO_some hrows).1
              have hS : (cutMem n0 L M1 H1 w1).stab.m r = some ms := by
                have hnl : ¬ LiveM n0 L M1 r := by
                  rintro ⟨id', hs, hl⟩
                  have := h1.injm _ _ _ hl hr
                  subst this
                  obtain ⟨g1, g2⟩ := goes_some hg
                  rcases hs with hs | hs
                  · omega
                  · exact g2 hs
                simp [cutMem, q3, hnl]
              have ge : ∀ i, i < es.length → ∃ x, es[i]? = some x ∧ es.getD i default = x := fun i hi => ⟨es[i], List.getElem?_eq_getElem hi, by simp [List.getD, hi]⟩
              have key : ∀ i, i < ks.length → ValIs (aggM es) (ms.getD i default).val (if aggM es then (match (ms.getD i default).val with | .agg a => a | v => #[v]) else #[(ms.getD i default).val]) ∧
                  (if aggM es then (match (ms.getD i default).val with | .agg a => a | v => #[v]) else #[(ms.getD i default).val]).size = (rows.getD i []).length ∧
                  ∀ j, j < (rows.getD i []).length → PVR (cutMem n0 L M1 H1 w1).stab ((rows.getD i []).getD j .junk) ((if aggM es then (match (ms.getD i default).val with | .agg a => a | v => #[v]) else #[(ms.getD i default).val]).getD j undef) := by
                intro i hi
                rw [hk1] at hi
                obtain ⟨x, hx1, hx2⟩ := ge i hi
                obtain ⟨y, hy1, hy2⟩ := (mapO_some hrows).2 i x hx1
                have hy : rows.getD i [] = y := by simp [List.getD, hy1]
                have hvv := (q5 i hi).2.1
                rw [hx2] at hvv
                rw [hy]
                unfold fzCellsM at hy2
                split at hy2
                · rename_i l hl
                  split at hy2
                  · cases hy2
                  · rename_i hg0
                    obtain ⟨l', hl1, rfl⟩ := Option.map_eq_some_iff.1 hy2
                    have hg0' : aggM es = false := by simpa using hg0
                    rw [hl] at hvv
                    have := fzL_sound h1 k _ _ _ hl1 hvv.one_inv
                    simp only [hg0', Bool.false_eq_true, if_false]
                    refine ⟨rfl, rfl, fun j hj => ?_⟩
                    have : j = 0 := by simpa using hj
                    subst this
                    simpa using fzL_sound h1 k _ _ _ hl1 hvv.one_inv
                · rename_i cs hl
                  split at hy2
                  · rename_i hg0
                    rw [hl] at hvv
                    obtain ⟨arr, ha, g1, g2⟩ := hvv.agg_inv
                    simp only [hg0, if_true, ha]
                    have hlen := (mapO_some hy2).1
                    have g1' : arr.size = cs.length := by simpa using g1
                    refine ⟨rfl, by omega, fun j hj => ?_⟩
                    have h2 := mapO_get hy2 (j := j) (by omega)
                    have h3 := g2 j (by omega)
                    have := fzL_sound h1 k _ _ _ h2 h3
                    rwa [show arr.toList.getD j undef = arr.getD j undef by simp [List.getD, Array.getD_eq_getD_getElem?]] at this
                  · cases hy2
                · cases hy2
              refine .imap ks (aggM es) rows r ms (fun i => if aggM es then (match (ms.getD i default).val with | .agg a => a | v => #[v]) else #[(ms.getD i default).val]) hS (by omega) (by omega)
                (fun i hi => ⟨(key i hi).1, (key i hi).2.1⟩) (fun i hi => ?_) fun i j hi hj => (key i hi).2.2 j hj
              rw [hk1] at hi
              obtain ⟨x, hx1, hx2⟩ := ge i hi
              obtain ⟨y, hy1, hy2⟩ := (mapO_some hks).2 i x hx1
              have hy : ks.getD i .junk = y := by simp [List.getD, hy1]
              have hvv := (q5 i hi).1
              rw [hx2] at hvv
              rw [hy]
              exact fzL_sound h1 k _ _ _ hy2 hvv
        · cases e
      · cases e
    case junk => simp [fzL] at e
    case nils => cases e; rw [hv.nils_inv]; exact .islz _
    case zsl =>
      cases e
      rcases hv.zsl_inv with rfl | ⟨a, rfl⟩
      · exact .islz _
      · exact .islz _
    case fn f caps =>
      simp only [fzL] at e
      obtain ⟨caps', e1, rfl⟩ := Option.map_eq_some_iff.1 e
      obtain ⟨vs, rfl, g1, g2⟩ := hv.fn_inv
      refine .fn f caps' vs (by rw [(mapO_some e1).1]; exact g1) fun i hi => ?_
      rw [(mapO_some e1).1] at hi
      exact fzL_sound h1 k _ _ _ (mapO_get e1 hi) (g2 i hi)
    all_goals
      simp only [fzL, Option.some.injEq] at e
      subst e
      cases hv with
      | pure h => exact pureC h

theorem stays_VR {l : Leaf} {v : Value} (hs : stays n0 l = true) (hv : VR M1 l v) : VR (cutMem n0 L M1 H1 w1) l v := by
  cases l <;> simp only [stays, Bool.false_eq_true, decide_eq_true_eq] at hs
  case ptr id sz i off =>
    obtain ⟨hb, k1, rfl⟩ := hv.ptr_inv
    exact .ptr id sz i off hb (by rw [cut_hist_lt hs]; exact k1)
  case sl id esz sz off len =>
    rcases hv.sl_inv with ⟨rfl, rfl, rfl, rfl, _⟩ | ⟨cap, a, hb, rfl, k1, k2, k3, k4, k5, k6, k7, k8, k9⟩
    · exact .slnil id esz (by show id < n0 + L.length; omega)
    subst k2
    exact .sl id sz off len cap a hb (by rw [cut_hist_lt hs]; exact k1) k3 k4 k5 k6 k7 k8 k9
  case map id =>
    obtain ⟨r, rfl, k1⟩ := hv.map_inv
    exact .map id r (by rw [cut_mp_lt hs]; exact k1)
  case junk => exact .junk v hv.one
  case nils => rw [hv.nils_inv]; exact .pure .nils
  case zsl =>
    rcases hv.zsl_inv with rfl | ⟨a, rfl⟩
    · exact .pure .zslnil
    · exact .pure (.zsl a)

theorem normL_VR {M : Mem} {l : Leaf} {u : Value} (h : VR M l u) : VR M (normL l) u := by
  cases l
  case nils => rw [h.nils_inv]; exact .pure (.islz _)
  case zsl =>
    rcases h.zsl_inv with rfl | ⟨a, rfl⟩
    · exact .pure (.islz _)
    · exact .pure (.islz _)
  all_goals exact h
theorem normV0_VV {M : Mem} {v : V} {u : Value} (h : VV M v u) : VV M (normV0 v) u := by
  cases v with
  | junk => exact h
  | tup _ => exact h
  | one l => exact .one (normL_VR h.one_inv)
  | agg cs =>
    obtain ⟨arr, rfl, h1, h2⟩ := h.agg_inv
    refine .agg ⟨by simpa using h1, fun j hj => ?_⟩
    have hj' : j < cs.length := by simpa using hj
    have := normL_VR (h2 j hj')
    have e : (cs.map normL).getD j .junk = normL (cs.getD j .junk) := by simp [List.getD, hj']
    rw [e]; exact this
theorem normV_VV {M : Mem} {v : V} {u : Value} (h : VV M v u) : VV M (normV v) u := by
  cases v with
  | junk => exact h
  | one l => exact normV0_VV h
  | agg cs => exact normV0_VV h
  | tup vs =>
    obtain ⟨arr, rfl, h1, h2⟩ := h.tup_inv
    refine .tup (by simpa using h1) fun j hj => ?_
    have hj' : j < vs.length := by simpa using hj
    have := normV0_VV (h2 j hj')
    have e : (vs.map normV0).getD j .junk = normV0 (vs.getD j .junk) := by simp [List.getD, hj']
    rw [e]; exact this

def CellOK (M1 M2 : Mem) (c c' : Leaf) : Prop := ∀ u, VR M1 c u → VR M2 c' u

theorem fzR_sound (h1 : Inv B M1 H1 w1) {l l' : Leaf} (e : fzR H1 n0 L l = some l') : CellOK M1 (cutMem n0 L M1 H1 w1) l l' := by
  intro v hv
  unfold fzR at e
  split at e
  · rename_i hs; cases e; exact stays_VR hs hv
  · rename_i hns
    split at e
    · exact .pure (fzL_sound h1 40 _ _ _ e hv)
    · rename_i id hid
      split at e
      · exact .pure (fzL_sound h1 40 _ _ _ e hv)
      · rename_i p hp
        cases e
        obtain ⟨p1, p2, p3⟩ := placeOf_some hp
        cases l <;> simp only [refId, reduceCtorEq, Option.some.injEq] at hid
        case ptr k sz i off =>
          subst hid
          obtain ⟨hb, k1, rfl⟩ := hv.ptr_inv
          exact .ptr p sz i off hb (by rw [cut_hist_at p1 p3]; exact k1)
        case sl k esz sz off len =>
          subst hid
          rcases hv.sl_inv with ⟨rfl, rfl, rfl, rfl, _⟩ | ⟨cap, a, hb, rfl, k1, k2, k3, k4, k5, k6, k7, k8, k9⟩
          · exact .slnil p esz p2
          subst k2
          exact .sl p sz off len cap a hb (by rw [cut_hist_at p1 p3]; exact k1) k3 k4 k5 k6 k7 k8 k9
        case map k =>
          subst hid
          obtain ⟨r, rfl, k1⟩ := hv.map_inv
          exact .map p r (by rw [cut_mp_at p1 p3]; exact k1)

theorem fzT_sound (h1 : Inv B M1 H1 w1) {l l' : Leaf} (e : fzT H1 n0 L l = some l') : CellOK M1 (cutMem n0 L M1 H1 w1) l l' := by
  cases l
  case fn f caps =>
    intro v hv
    simp only [fzT] at e
    obtain ⟨caps', e1, rfl⟩ := Option.map_eq_some_iff.1 e
    obtain ⟨vs, rfl, g1, g2⟩ := hv.fn_inv
    refine .fn f caps' vs (by rw [(mapO_some e1).1]; exact g1) fun i hi => ?_
    rw [(mapO_some e1).1] at hi
    exact fzR_sound h1 (mapO_get e1 hi) _ (g2 i hi)
  all_goals exact fzR_sound h1 e

theorem fzCs_sound (h1 : Inv B M1 H1 w1) {cs cs' : List Leaf} {arr : List Value} (e : mapO (fzT H1 n0 L) cs = some cs') (hv : CsR M1 cs arr) : CsR (cutMem n0 L M1 H1 w1) cs' arr := by
  refine ⟨by rw [(mapO_some e).1]; exact hv.1, fun j hj => ?_⟩
  rw [(mapO_some e).1] at hj
  exact fzT_sound h1 (mapO_get e hj) _ (hv.2 j hj)

theorem fzV0_sound (h1 : Inv B M1 H1 w1) {x x' : V} {v : Value} (e : fzV0 H1 n0 L x = some x') (hv : VV M1 x v) : VV (cutMem n0 L M1 H1 w1) x' v := by
  unfold fzV0 at e
  split at e
  · cases e; exact .junk v
  · obtain ⟨l', e1, rfl⟩ := Option.map_eq_some_iff.1 e; exact .one (fzT_sound h1 e1 _ hv.one_inv)
  · obtain ⟨l', e1, rfl⟩ := Option.map_eq_some_iff.1 e
    obtain ⟨arr, rfl, h2⟩ := hv.agg_inv
    exact .agg (fzCs_sound h1 e1 h2)
  · cases e

theorem fzV_sound (h1 : Inv B M1 H1 w1) {x x' : V} {v : Value} (e : fzV H1 n0 L x = some x') (hv : VV M1 x v) : VV (cutMem n0 L M1 H1 w1) x' v := by
  unfold fzV at e
  split at e
  · obtain ⟨vs', e1, rfl⟩ := Option.map_eq_some_iff.1 e
    obtain ⟨arr, rfl, h2, h3⟩ := hv.tup_inv
    refine .tup (by rw [(mapO_some e1).1]; exact h2) fun i hi => ?_
    rw [(mapO_some e1).1] at hi
    obtain ⟨y, k1, k2⟩ := (mapO_some e1).2 i _ (List.getElem?_eq_getElem hi)
    have h4 := h3 i hi
    simp only [List.getD, k1, Option.getD_some]
    simp only [List.getD, List.getElem?_eq_getElem hi, Option.getD_some] at h4
    exact fzV0_sound h1 k2 h4
  · exact fzV0_sound h1 e hv

def CellsOK (M1 M2 : Mem) (cs cs' : List Leaf) : Prop := cs'.length = cs.length ∧ ∀ j, j < cs.length → CellOK M1 M2 (cs.getD j .junk) (cs'.getD j .junk)
def RowsOK (M1 M2 : Mem) (es es' : List (List Leaf)) : Prop := es'.length = es.length ∧ ∀ i, i < es.length → CellsOK M1 M2 (es.getD i []) (es'.getD i [])
def EntsOK (M1 M2 : Mem) (es es' : List (Leaf × V × Nat)) : Prop :=
  es'.length = es.length ∧ ∀ i, i < es.length → CellOK M1 M2 (es.getD i default).1 (es'.getD i default).1 ∧ (∀ v, VV M1 (es.getD i default).2.1 v → VV M2 (es'.getD i default).2.1 v) ∧ (es'.getD i default).2.2 = (es.getD i default).2.2
def ObjOK (M1 M2 : Mem) : AO → AO → Prop
  | .row z es, .row z' es' => z' = z ∧ RowsOK M1 M2 es es'
  | .mp ck es, .mp ck' es' => ck' = ck ∧ EntsOK M1 M2 es es'
  | _, _ => False

theorem cells_sound (h1 : Inv B M1 H1 w1) {cs cs' : List Leaf} (e : mapO (fzT H1 n0 L) cs = some cs') : CellsOK M1 (cutMem n0 L M1 H1 w1) cs cs' :=
  ⟨(mapO_some e).1, fun j hj => fzT_sound h1 (mapO_get e hj)⟩

theorem fzO_sound (h1 : Inv B M1 H1 w1) {o o' : AO} (e : fzO H1 n0 L o = some o') : ObjOK M1 (cutMem n0 L M1 H1 w1) o o' := by
  cases o with
  | row z es =>
    simp only [fzO] at e
    obtain ⟨es', e1, rfl⟩ := Option.map_eq_some_iff.1 e
    exact ⟨rfl, (mapO_some e1).1, fun i hi => cells_sound h1 (mapO_get2 e1 hi)⟩
  | mp ck es =>
    simp only [fzO] at e
    obtain ⟨es', e1, rfl⟩ := Option.map_eq_some_iff.1 e
    refine ⟨rfl, (mapO_some e1).1, fun i hi => ?_⟩
    obtain ⟨y, k1, k2⟩ := (mapO_some e1).2 i _ (List.getElem?_eq_getElem hi)
    have g1 : es.getD i default = es[i] := by simp [List.getD, hi]
    have g2 : es'.getD i default = y := by simp [List.getD, k1]
    rw [g1, g2]
    unfold fzE at k2
    split at k2
    · cases k2
    · rename_i a ha
      split at k2
      · cases k2
      · rename_i b hb
        cases k2
        exact ⟨fzT_sound h1 ha, fun v hv => fzV0_sound h1 hb hv, rfl⟩

theorem keepP (h1 : Inv B M1 H1 w1) {S : Stab} {l : Leaf} {v0 : Value} (h : PVR S l v0) : ∀ v1, VR M1 l v1 → VR (cutMem n0 L M1 H1 w1) l v1 := by
  have pureC : ∀ {l : Leaf} {v : Value}, PVR M1.stab l v → VR (cutMem n0 L M1 H1 w1) l v := fun h => .pure (h.mono (cut_sle h1))
  induction h with
  | fn f caps vs hn _ ih =>
    intro v1 hv
    obtain ⟨vs1, rfl, g1, g2⟩ := hv.fn_inv
    exact .fn f caps vs1 g1 fun i hi => ih i hi _ (g2 i hi)
  | _ => intro v1 hv; cases hv with | pure h => exact pureC h

theorem keepVR (h0 : Inv B M H w) (hn : H.length = n0) (h1 : Inv B M1 H1 w1) {l : Leaf} {v0 : Value} (h : VR M l v0) : CellOK M1 (cutMem n0 L M1 H1 w1) l l := by
  have lt : ∀ {id : Nat} {o : Option AO}, H[id]? = some o → id < n0 := fun h => by rw [← hn]; exact (List.getElem?_eq_some_iff.1 h).1
  induction h with
  | pure h => exact keepP h1 h
  | junk v h => intro v1 hv; exact .junk v1 hv.one
  | ptr id sz i off hb h =>
    intro v1 hv
    obtain ⟨_, _, g, _⟩ := h0.histH _ _ _ h
    exact stays_VR (by simpa [stays] using lt g) hv
  | sl id sz off len cap a hb h =>
    intro v1 hv
    obtain ⟨_, _, g, _⟩ := h0.histH _ _ _ h
    exact stays_VR (by simpa [stays] using lt g) hv
  | slnil id esz h =>
    intro v1 hv
    have := h0.lim
    exact stays_VR (by simp [stays]; omega) hv
  | map id r h =>
    intro v1 hv
    obtain ⟨_, _, g⟩ := h0.mpH _ _ h
    exact stays_VR (by simpa [stays] using lt g) hv
  | fn f caps vs hn _ ih =>
    intro v1 hv
    obtain ⟨vs1, rfl, g1, g2⟩ := hv.fn_inv
    exact .fn f caps vs1 g1 fun i hi => ih i hi _ (g2 i hi)
theorem keepVV (h0 : Inv B M H w) (hn : H.length = n0) (h1 : Inv B M1 H1 w1) {x : V} {v0 : Value} (h : VV M x v0) : ∀ v1, VV M1 x v1 → VV (cutMem n0 L M1 H1 w1) x v1 := by
  induction h with
  | junk v => intro v1 _; exact .junk v1
  | one h => intro v1 hv; obtain g := hv.one_inv; exact .one (keepVR h0 hn h1 h _ g)
  | agg h =>
    intro v1 hv
    obtain ⟨arr, rfl, g⟩ := hv.agg_inv
    exact .agg ⟨g.1, fun j hj => keepVR h0 hn h1 (h.2 j hj) _ (g.2 j hj)⟩
  | tup hn' h ih =>
    intro v1 hv
    obtain ⟨arr, rfl, g1, g2⟩ := hv.tup_inv
    exact .tup g1 fun i hi => ih i hi _ (g2 i hi)


def AlP (M1 M2 : Mem) (H1 : Heap) (x : Option Nat) (o : Option AO) : Prop :=
  (x = none ∧ (o = none ∨ ∃ e, o = some (.row e []))) ∨ ∃ id ob ob', x = some id ∧ H1[id]? = some (some ob) ∧ o = some ob' ∧ ObjOK M1 M2 ob ob'

def AlL (M1 M2 : Mem) (H1 : Heap) : List (Option Nat) → Heap → Prop
  | [], [] => True
  | x :: xs, o :: os => AlP M1 M2 H1 x o ∧ AlL M1 M2 H1 xs os
  | _, _ => False

theorem AlL.append {M1 M2 : Mem} {H1 : Heap} : ∀ {xs ys : List (Option Nat)} {a b : Heap}, AlL M1 M2 H1 xs a → AlL M1 M2 H1 ys b → AlL M1 M2 H1 (xs ++ ys) (a ++ b)
  | [], ys, [], b, _, h => h
  | x :: xs, ys, o :: os, b, h, k => ⟨h.1, AlL.append h.2 k⟩
  | [], ys, o :: os, b, h, _ => h.elim
  | x :: xs, ys, [], b, h, _ => h.elim

theorem AlL.length {M1 M2 : Mem} {H1 : Heap} : ∀ {xs : List (Option Nat)} {a : Heap}, AlL M1 M2 H1 xs a → a.length = xs.length
  | [], [], _ => rfl
  | x :: xs, o :: os, h => by simp [AlL.length h.2]
  | [], o :: os, h => h.elim
  | x :: xs, [], h => h.elim

theorem AlL.get {M1 M2 : Mem} {H1 : Heap} : ∀ {xs : List (Option Nat)} {a : Heap}, AlL M1 M2 H1 xs a → ∀ (p : Nat) (o : Option AO), a[p]? = some o → ∃ x, xs[p]? = some x ∧ AlP M1 M2 H1 x o
  | [], [], _, p, o, h => by simp at h
  | x :: xs, o :: os, h, p, o', hp => by
    cases p with
    | zero => simp at hp; subst hp; exact ⟨x, by simp, h.1⟩
    | succ p => simpa using AlL.get h.2 p o' (by simpa using hp)
  | [], o :: os, h, _, _, _ => h.elim
  | x :: xs, [], h, _, _, _ => h.elim

theorem AlL.at {M1 M2 : Mem} {H1 : Heap} {xs : List (Option Nat)} {a : Heap} (h : AlL M1 M2 H1 xs a) {p id : Nat} (hp : xs[p]? = some (some id)) : ∃ ob ob', H1[id]? = some (some ob) ∧ a[p]? = some (some ob') ∧ ObjOK M1 M2 ob ob' := by
  have hl : p < a.length := by rw [h.length]; exact (List.getElem?_eq_some_iff.1 hp).1
  obtain ⟨x, h1, h2⟩ := h.get p _ (List.getElem?_eq_getElem hl)
  rw [hp] at h1; cases h1
  rcases h2 with ⟨h2, _⟩ | ⟨id', ob, ob', h3, h4, h5, h6⟩
  · cases h2
  · cases h3; exact ⟨ob, ob', h4, by rw [List.getElem?_eq_getElem hl, h5], h6⟩

theorem cut_inv (h0 : Inv B M H w) (hn : H.length = n0) (h1 : Inv B M1 H1 w1) {ws : List Nat} (hfr : n0 ≤ H1.length ∧ ∀ id, id < n0 → id ∉ ws → H1[id]? = H[id]?)
    (hok : okL n0 L = true) {h' tail : Heap} (hlen : h'.length = n0)
    (hh : ∀ k, k < n0 → (∃ o o', H1[k]? = some (some o) ∧ ObjOK M1 (cutMem n0 L M1 H1 w1) o o' ∧ h'[k]? = some (some o')) ∨ (k ∉ ws ∧ h'[k]? = H1[k]?))
    (ht : AlL M1 (cutMem n0 L M1 H1 w1) H1 L tail) : ExtN n0 M1 (cutMem n0 L M1 H1 w1) ∧ Inv B (cutMem n0 L M1 H1 w1) (h' ++ tail) w1 := by
  obtain ⟨ok1, ok2⟩ := okL_some hok
  have htl := ht.length
  refine ⟨⟨cut_sle h1, fun id sz hb hl h => by rw [cut_hist_lt hl]; exact h, fun id r hl h => by rw [cut_mp_lt hl]; exact h, .inr (Nat.le_add_right _ _)⟩, ?_⟩
  have lo : ∀ id, id < n0 → (h' ++ tail)[id]? = h'[id]? := fun id hl => List.getElem?_append_left (by omega)
  have hi : ∀ id, n0 ≤ id → (h' ++ tail)[id]? = tail[id - n0]? := fun id hl => by rw [List.getElem?_append_right (by omega), hlen]
  -- an object that is left, and which one it was
  have objOf : ∀ id o', (h' ++ tail)[id]? = some (some o') → (∃ e, o' = .row e [] ∧ (∀ sz, (cutMem n0 L M1 H1 w1).hist id sz = none)) ∨
      ∃ id1 o, H1[id1]? = some (some o) ∧ ObjOK M1 (cutMem n0 L M1 H1 w1) o o' ∧ Stays n0 L id1 ∧ ((id < n0 ∧ id1 = id) ∨ (n0 ≤ id ∧ L[id - n0]? = some (some id1))) ∧
        (∀ sz, (cutMem n0 L M1 H1 w1).hist id sz = M1.hist id1 sz) ∧ (cutMem n0 L M1 H1 w1).mp id = M1.mp id1 := by
    intro id o' hid
    rcases Nat.lt_or_ge id n0 with hlt | hge
    · rw [lo id hlt] at hid
      right
      rcases hh id hlt with ⟨o, o2, k2, k3, k4⟩ | ⟨k1, k2⟩
      · rw [hid] at k4; cases k4
        exact ⟨id, o, k2, k3, .inl hlt, .inl ⟨hlt, rfl⟩, fun sz => cut_hist_lt hlt sz, cut_mp_lt hlt⟩
      · rw [k2] at hid
        have hH := hfr.2 id hlt k1
        rw [hid] at hH
        refine ⟨id, o', hid, ?_, .inl hlt, .inl ⟨hlt, rfl⟩, fun sz => cut_hist_lt hlt sz, cut_mp_lt hlt⟩
        cases o' with
        | row esz elems =>
          refine ⟨rfl, rfl, fun i hi => ⟨rfl, fun j hj => ?_⟩⟩
          rcases h0.row id esz elems hH.symm with ⟨rfl, _⟩ | ⟨c, cap, arr0, e0, _, _, _, _, _, _, q7, q8⟩
          · simp at hi
          · exact keepVR h0 hn h1 (q8 i j hi (by rw [← q7 i hi]; exact hj))
        | mp ck es =>
          obtain ⟨r0, ms0, p1, p2, p3, p4, p5⟩ := h0.mpr id ck es hH.symm
          exact ⟨rfl, rfl, fun i hi => ⟨keepVR h0 hn h1 (p5 i hi).1, fun v hv => keepVV h0 hn h1 (p5 i hi).2.1 v hv, rfl⟩⟩
    · rw [hi id hge] at hid
      obtain ⟨x, hx, hal⟩ := ht.get _ _ hid
      rcases hal with ⟨rfl, h2 | ⟨e, h2⟩⟩ | ⟨k, ob, ob', rfl, h3, h4, h5⟩
      · cases h2
      · cases h2
        refine .inl ⟨e, rfl, fun sz => ?_⟩
        simp only [cutMem]; rw [if_neg (by omega), hx]
      · cases h4
        exact .inr ⟨k, ob, h3, h5, .inr (List.mem_of_getElem? hx), .inr ⟨hge, hx⟩, fun sz => cut_hist_at hge hx sz, cut_mp_at hge hx⟩
  -- an object that stays, and where it is left
  have objTo : ∀ id id1 o, ((id < n0 ∧ id1 = id) ∨ (n0 ≤ id ∧ L[id - n0]? = some (some id1))) → H1[id1]? = some (some o) → ∃ o', (h' ++ tail)[id]? = some (some o') ∧ ((∃ ck es, o = .mp ck es) → ∃ ck es, o' = .mp ck es) ∧
      ∀ esz elems, o = .row esz elems → ∃ elems', o' = .row esz elems' ∧ elems'.length = elems.length := by
    intro id id1 o hs ho
    have fin : ∀ {o o' : AO}, ObjOK M1 (cutMem n0 L M1 H1 w1) o o' → ((∃ ck es, o = .mp ck es) → ∃ ck es, o' = .mp ck es) ∧ ∀ esz elems, o = .row esz elems → ∃ elems', o' = .row esz elems' ∧ elems'.length = elems.length := by
      intro o o' hoo
      cases o <;> cases o' <;> simp only [ObjOK] at hoo
      · refine ⟨fun h => (by obtain ⟨_, _, h⟩ := h; cases h), fun esz elems h => ?_⟩
        cases h; obtain ⟨rfl, h2⟩ := hoo; exact ⟨_, rfl, h2.1⟩
      · exact ⟨fun _ => ⟨_, _, rfl⟩, fun _ _ h => by cases h⟩
    rcases hs with ⟨hlt, rfl⟩ | ⟨hge, hL⟩
    · rw [lo _ hlt]
      rcases hh _ hlt with ⟨o1, o2, k2, k3, k4⟩ | ⟨k1, k2⟩
      · rw [ho] at k2; cases k2
        exact ⟨o2, k4, fin k3⟩
      · exact ⟨o, by rw [k2, ho], fun h => h, fun esz elems h => ⟨elems, h, rfl⟩⟩
    · rw [hi _ hge]
      obtain ⟨ob, ob', q1, q2, q3⟩ := ht.at hL
      rw [ho] at q1; cases q1
      exact ⟨ob', q2, fin q3⟩
  have src : ∀ id sz hb, (cutMem n0 L M1 H1 w1).hist id sz = some hb → ∃ id1, ((id < n0 ∧ id1 = id) ∨ (n0 ≤ id ∧ L[id - n0]? = some (some id1))) ∧ M1.hist id1 sz = some hb := by
    intro id sz hb h
    rcases Nat.lt_or_ge id n0 with hlt | hge
    · rw [cut_hist_lt hlt] at h; exact ⟨id, .inl ⟨hlt, rfl⟩, h⟩
    · simp only [cutMem] at h
      rw [if_neg (by omega)] at h
      split at h
      · rename_i k hk; exact ⟨k, .inr ⟨hge, hk⟩, h⟩
      · cases h
  have srcM : ∀ id r, (cutMem n0 L M1 H1 w1).mp id = some r → ∃ id1, ((id < n0 ∧ id1 = id) ∨ (n0 ≤ id ∧ L[id - n0]? = some (some id1))) ∧ M1.mp id1 = some r := by
    intro id r h
    rcases Nat.lt_or_ge id n0 with hlt | hge
    · rw [cut_mp_lt hlt] at h; exact ⟨id, .inl ⟨hlt, rfl⟩, h⟩
    · simp only [cutMem] at h
      rw [if_neg (by omega)] at h
      split at h
      · rename_i k hk; exact ⟨k, .inr ⟨hge, hk⟩, h⟩
      · cases h
  have same : ∀ {id id' k : Nat}, ((id < n0 ∧ k = id) ∨ (n0 ≤ id ∧ L[id - n0]? = some (some k))) → ((id' < n0 ∧ k = id') ∨ (n0 ≤ id' ∧ L[id' - n0]? = some (some k))) → id = id' := by
    rintro id id' k (⟨x1, rfl⟩ | ⟨x1, x2⟩) (⟨y1, y2⟩ | ⟨y1, y2⟩)
    · exact y2
    · have := ok1 _ (List.mem_of_getElem? y2); omega
    · subst y2; have := ok1 _ (List.mem_of_getElem? x2); omega
    · have := ok2 _ _ _ x2 y2; omega
  refine ⟨h1.base, ?_, ?_, ?_, ?_, ?_, ?_, ?_, by rw [List.length_append, hlen, htl]; exact Nat.le_refl _, ?_, ?_⟩
  rotate_right 2
  · intro r ms hr
    simp only [cutMem] at hr
    split at hr
    · rename_i ms' ck hh
      split at hr
      · exact h1.mstab r ms hr
      · cases hr; exact ⟨ck, hh⟩
    · cases hr
  · intro id r hx
    obtain ⟨id1, hs, hm⟩ := srcM id r hx
    have hl : LiveM n0 L M1 r := ⟨id1, by
      rcases hs with ⟨h, rfl⟩ | ⟨_, h⟩
      · exact .inl h
      · exact .inr (List.mem_of_getElem? h), hm⟩
    have hn := h1.mpS _ _ hm
    simp only [cutMem]
    split
    · rw [if_pos hl]; exact hn
    · rfl
  · intro b arr hb
    simp only [cutMem] at hb
    split at hb
    · rename_i arr' e' fr hh
      split at hb
      · exact h1.stab b arr hb
      · cases hb; exact ⟨e', fr, hh⟩
    · cases hb
  · intro id sz hb hx
    obtain ⟨id1, hs, hh1⟩ := src id sz hb hx
    obtain ⟨esz, elems1, k1, k2, k3⟩ := h1.histH _ _ _ hh1
    obtain ⟨o', q1, _, q2⟩ := objTo id id1 _ hs k1
    obtain ⟨elems', rfl, q3⟩ := q2 _ _ rfl
    exact ⟨esz, elems', q1, by omega, k3⟩
  · intro id r hx
    obtain ⟨id1, hs, hh1⟩ := srcM id r hx
    obtain ⟨ck, es, k1⟩ := h1.mpH _ _ hh1
    obtain ⟨o', q1, q2, _⟩ := objTo id id1 _ hs k1
    obtain ⟨ck', es', rfl⟩ := q2 ⟨_, _, rfl⟩
    exact ⟨ck', es', q1⟩
  · intro id esz elems hid
    rcases objOf id _ hid with ⟨e, h2, h3⟩ | ⟨id1, o, k1, k2, k3, k4, k5, _⟩
    · cases h2; exact .inl ⟨rfl, h3⟩
    · cases o with
      | mp _ => exact k2.elim
      | row z elems1 =>
        obtain ⟨rfl, k6, k7⟩ := k2
        rcases h1.row id1 _ elems1 k1 with ⟨rfl, q⟩ | ⟨c, cap, arr, e', q1, q2, q3, q4, q5, q6, q7, q8⟩
        · exact .inl ⟨List.eq_nil_of_length_eq_zero (by simpa using k6), fun sz => by rw [k5]; exact q sz⟩
        · refine .inr ⟨c, cap, arr, e', by rw [k5, k6]; exact q1, q2, q3, ?_, q5, by omega, fun i hi => ?_, fun i j hi hj => ?_⟩
          · have hl : LiveB n0 L M1 H1 c := ⟨id1, _, elems1, _, k3, k1, q1, rfl⟩
            simp [cutMem, q3, hl, q4]
          · rw [k6] at hi; rw [(k7 i hi).1]; exact q7 i hi
          · rw [k6] at hi; exact (k7 i hi).2 j (by rw [q7 i hi]; exact hj) _ (q8 i j hi hj)
  · intro id ck es hid
    rcases objOf id _ hid with ⟨e, h2, h3⟩ | ⟨id1, o, k1, k2, k3, k4, k5, k6⟩
    · cases h2
    · cases o with
      | row _ _ => exact k2.elim
      | mp ck1 es1 =>
        obtain ⟨k0, k7, k8⟩ := k2
        subst k0
        obtain ⟨r, ms, q1, q2, q3, q4, q5⟩ := h1.mpr id1 ck es1 k1
        exact ⟨r, ms, by rw [k6]; exact q1, q2, q3, by omega, fun i hi => by
          rw [k7] at hi; exact ⟨(k8 i hi).1 _ (q5 i hi).1, (k8 i hi).2.1 _ (q5 i hi).2.1, by rw [(k8 i hi).2.2]; exact (q5 i hi).2.2⟩⟩
  · intro id id' z z' el el' hb hb' r r' k k' hblk
    rcases objOf id _ r with ⟨e, _, h3⟩ | ⟨i1, o1, a1, a2, a3, a4, a5, _⟩
    · rw [h3] at k; cases k
    rcases objOf id' _ r' with ⟨e, _, h3⟩ | ⟨i2, o2, b1, b2, b3, b4, b5, _⟩
    · rw [h3] at k'; cases k'
    rw [a5] at k
    rw [b5] at k'
    cases o1 with
    | mp _ => exact a2.elim
    | row z1 e1 =>
      cases o2 with
      | mp _ => exact b2.elim
      | row z2 e2 =>
        rw [a2.2.1] at k
        rw [b2.2.1] at k'
        have := h1.inj i1 i2 _ _ e1 e2 hb hb' a1 b1 k k' hblk
        subst this
        exact same a4 b4
  · intro id id' r h2 h3
    obtain ⟨i1, s1, g1⟩ := srcM id r h2
    obtain ⟨i2, s2, g2⟩ := srcM id' r h3
    have := h1.injm _ _ _ g1 g2
    subst this
    exact same s1 s2

theorem fzH_ok (h1 : Inv B M1 H1 w1) (hl : n0 ≤ H1.length) {ws : List Nat} {h' : Heap} (e : fzH H1 n0 L ws (H1.take n0) = some h') : h'.length = n0 ∧
    ∀ k, k < n0 → (∃ o o', H1[k]? = some (some o) ∧ ObjOK M1 (cutMem n0 L M1 H1 w1) o o' ∧ h'[k]? = some (some o')) ∨ (k ∉ ws ∧ h'[k]? = H1[k]?) := by
  obtain ⟨g1, g2⟩ := fzH_some e
  refine ⟨by rw [g1, List.length_take]; omega, fun k hk => ?_⟩
  rcases g2 k (by rw [List.length_take]; omega) with ⟨_, o, o', k1, k2, k3⟩ | ⟨k1, k2⟩
  · exact .inl ⟨o, o', k1, fzO_sound h1 k2, k3⟩
  · exact .inr ⟨k1, by rw [k2, List.getElem?_take, if_pos hk]⟩

theorem objOf_al (h1 : Inv B M1 H1 w1) {x : Option Nat} {o : Option AO} (e : objOf H1 n0 L x = some o) : AlP M1 (cutMem n0 L M1 H1 w1) H1 x o := by
  unfold objOf at e
  split at e
  · cases e; exact .inl ⟨rfl, .inl rfl⟩
  · rename_i id
    split at e
    · rename_i ob hob
      split at e
      · rename_i ob' hob'
        cases e; exact .inr ⟨id, ob, ob', rfl, hob, rfl, fzO_sound h1 hob'⟩
      · cases e
    · cases e

theorem objs_al (h1 : Inv B M1 H1 w1) : ∀ {xs : List (Option Nat)} {t : Heap}, mapO (objOf H1 n0 L) xs = some t → AlL M1 (cutMem n0 L M1 H1 w1) H1 xs t
  | [], t, e => by cases e; trivial
  | x :: xs, t, e => by
    unfold mapO at e
    split at e
    · cases e
    · rename_i y hy
      split at e
      · cases e
      · rename_i ys hys
        cases e
        exact ⟨objOf_al h1 hy, objs_al h1 hys⟩
end
end Go.Proofs.YtkbdhjfjbkmkcaaGreat.Abs
