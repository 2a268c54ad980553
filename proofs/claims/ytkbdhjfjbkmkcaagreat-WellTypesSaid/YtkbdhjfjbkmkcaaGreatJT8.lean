/- The abstract machine: append, copy, make, literals of slices. -/
import Derived.Test.YtkbdhjfjbkmkcaaGreatJT7
set_option linter.unusedSimpArgs false
set_option linter.unusedVariables false
namespace Go.Proofs.YtkbdhjfjbkmkcaaGreat.Abs
open Go Go.RowKit

section
variable {P : Program} {B : Nat} {M : Mem} {H : Heap} {w : World}

theorem run_append_zero {t ty e : TypeId} {i : TypeInfo} (ht : P.underlying t = some (.slice e)) (hi : P.info? e = some i) (base : Option Addr) (sLen sCap : Nat) (b : Option Addr) (c : Nat) (hl : sLen ≤ sCap) (w : World) :
    (Builtin.append_ #[t, t] ty #[.slice base sLen sCap, .slice b 0 c]).run P w = .ok (.slice base sLen sCap) w := by
  cases b <;> cases base <;> simp [Builtin.append_, run_underlying ht, sizeOf, typeInfo, hi, Builtin.lenOf, hl, Builtin.firstCells, loadCells, loadCellsFrom, storeCells]

theorem run_append_room' {t ty e : TypeId} {i : TypeInfo} (ht : P.underlying t = some (.slice e)) (hi : P.info? e = some i)
    (g o sLen sCap : Nat) (cur : Array Value) (tt : TypeId) (hg : w.heap[g]? = some (.cells cur tt (0, 0)))
    (a : Addr) (m c : Nat) (news : List Value) (hl : news.length = m * i.size) (hnews : ∀ j u, news[j]? = some u → w.cell? (a.add j) = some u) (h1 : ∀ u ∈ news, u.oneCell' = true)
    (hroom : sLen + m ≤ sCap) (hfit : o + sLen * i.size + news.length ≤ cur.size) :
    (Builtin.append_ #[t, t] ty #[.slice (some ⟨g, o, none⟩) sLen sCap, .slice (some a) m c]).run P w =
      .ok (.slice (some ⟨g, o, none⟩) (sLen + m) sCap) (w.setRow g (cur.toList.take (o + sLen * i.size) ++ news ++ cur.toList.drop (o + sLen * i.size + news.length)).toArray) := by
  have hf := run_firstCells_some (P := P) w i.size m a m c news hl hnews
  have hst := run_storeCells_at P g (o + sLen * i.size) tt news 0 cur w hg (by simpa using hfit) h1
  simp only [Nat.add_zero] at hst
  simp [Builtin.append_, run_underlying ht, sizeOf, typeInfo, hi, Builtin.lenOf, hroom, hf, Addr.add_lit, hst]

theorem grown_size {z : Value} {size need : Nat} {olds news : List Value} (hz : z.cells.size = size) (hl : olds.length + news.length = need * size) {cap : Nat} (hc : need ≤ cap) :
    (olds.toArray ++ news.toArray ++ Builtin.zeroCells z.cells (cap - need)).size = cap * size := by
  rw [Array.size_append, Array.size_append, size_zeroCells, hz]
  simp only [List.size_toArray]
  rw [hl, ← Nat.add_mul]
  congr 1
  omega

theorem grown_get {α : Array Value} {olds news : List Value} (k : Nat) (hk : k < olds.length + news.length) :
    (olds.toArray ++ news.toArray ++ α).getD k undef = (olds ++ news).getD k undef := by
  rw [← getD_toList]
  simp only [List.getD]
  congr 1
  rw [Array.toList_append, Array.toList_append, List.getElem?_append_left (by simp; omega)]

theorem ElR.append {size : Nat} {es es' : List (List Leaf)} {a b : List Value} (h : ElR M size es a) (h' : ElR M size es' b) : ElR M size (es ++ es') (a ++ b) := by
  have hg : ∀ i, (es ++ es').getD i [] = if i < es.length then es.getD i [] else es'.getD (i - es.length) [] := by
    intro i
    simp only [List.getD]
    split
    · rename_i h1; rw [List.getElem?_append_left h1]
    · rename_i h1; rw [List.getElem?_append_right (by omega)]
  refine ⟨by rw [List.length_append, List.length_append, h.1, h'.1, Nat.add_mul], fun i hi => ?_, fun i j hi hj => ?_⟩
  · rw [hg]; rw [List.length_append] at hi
    split
    · exact h.2.1 i (by assumption)
    · exact h'.2.1 _ (by omega)
  · rw [hg]; rw [List.length_append] at hi
    split
    · rename_i h1
      have := idx_lt h1 hj
      rw [show (a ++ b).getD (i * size + j) undef = a.getD (i * size + j) undef by simp only [List.getD]; rw [List.getElem?_append_left (by rw [h.1]; exact this)]]
      exact h.2.2 i j h1 hj
    · rename_i h1
      have h2 : es.length * size ≤ i * size := Nat.mul_le_mul_right _ (by omega)
      rw [show (a ++ b).getD (i * size + j) undef = b.getD ((i - es.length) * size + j) undef by
        simp only [List.getD]; rw [List.getElem?_append_right (by rw [h.1]; omega), h.1, idx_sub (by omega)]]
      exact h'.2.2 _ j (by omega) hj

theorem ElR.mono {M M' : Mem} (hE : Ext M M') {size : Nat} {es : List (List Leaf)} {a : List Value} (h : ElR M size es a) : ElR M' size es a := ⟨h.1, h.2.1, fun i j x y => (h.2.2 i j x y).mono hE⟩

def Left (B : Nat) (M : Mem) (H' : Heap) (v : V) (w : World) (r : Result Value) : Prop :=
  ∃ M' w' u, Ext M M' ∧ Inv B M' H' w' ∧ VV M' v u ∧ Below B w w' ∧ r = .ok u w'

theorem run_fresh (hI : Inv B M H w) {t ty e : TypeId} {i : TypeInfo} {z : Value} (ht : P.underlying t = some (.slice e)) (hi : P.info? e = some i) (hz : i.zero = some z) (hzs : z.cells.size = i.size)
    {slot : Option Nat} {xs : List (List Leaf)} {v : V} {H' : Heap} {ws : List Nat}
    (e1 : allocR slot H (.row i.size xs) (fun id => .one (.sl id i.size xs.length 0 xs.length)) = some (v, H', ws))
    {s : Value} (hs : s = .slice none 0 0 ∨ ∃ a, s = .slice (some a) 0 0) (a : Addr) (c : Nat) (news : List Value) (hE : ElR M i.size xs news) (hnews : ∀ j u, news[j]? = some u → w.cell? (a.add j) = some u)
    (h0 : 0 < xs.length) (hb : xs.length * i.bytes ≤ 140737488355328) (h63 : xs.length ≤ 140737488355328) :
    Left B M H' v w ((Builtin.append_ #[t, t] ty #[s, .slice (some a) xs.length c]).run P w) := by
  have hcap := grownCap_ge w xs.length 0 e
  have hr : (Builtin.append_ #[t, t] ty #[s, .slice (some a) xs.length c]).run P w = .ok (.slice (some ⟨w.heap.size, 0, none⟩) xs.length (grownCap w xs.length 0 e))
      (w.drew.alloc (.cells (([] : List Value).toArray ++ news.toArray ++ Builtin.zeroCells z.cells (grownCap w xs.length 0 e - xs.length)) e)) := by
    rcases hs with rfl | ⟨b, rfl⟩
    · have := run_append_nil (P := P) w t ty e i z ht hi hz a xs.length c news hE.1 hnews h0 (by omega) (by omega)
      rw [this]; simp
    · have := run_append_grow (P := P) w t ty e i z ht hi hz b 0 0 [] (by simp) (by simp) a xs.length c news hE.1 hnews (by omega) (by omega) (growslice_fits (by omega) (by simpa using hb))
      rw [this]; simp
  have hnl : news.length = xs.length * i.size := hE.1
  obtain ⟨id, M', rfl, hx, hI', hh⟩ := alloc_sound (w := w.drew) hI.drew e1 (arr := ([] : List Value).toArray ++ news.toArray ++ Builtin.zeroCells z.cells (grownCap w xs.length 0 e - xs.length)) e
    (grown_size (need := xs.length) hzs (by simpa using hnl) hcap) hcap hE.2.1 (fun k j hk hj => by
      rw [grown_get _ (by have := idx_lt hk hj; simp; omega)]
      simpa using hE.2.2 k j hk hj)
  refine ⟨M', _, _, hx, hI', ?_, (Below.refl B w).drew.alloc hI.base _, hr⟩
  exact .one (VR.sl id xs.length 0 xs.length _ ⟨w.heap.size, 0, none⟩ _ hh rfl rfl (.inr (by simp)) (by simp) (by simpa using hcap) (by simp) hcap)

theorem run_appendV (hI : Inv B M H w) {slot : Option Nat} {t tx ty : TypeId} {s x v : V} {H' : Heap} {ws : List Nat} (e : appendV P slot H t tx s x = some (v, H', ws)) {us ux : Value} (hs : VV M s us) (hx : VV M x ux) :
    Left B M H' v w ((Builtin.append_ #[t, tx] ty #[us, ux]).run P w) := by
  unfold appendV at e
  obtain ⟨el, e1, q1⟩ := Option.bind_eq_some_iff.1 e
  clear e
  obtain ⟨i, hi, q2⟩ := Option.bind_eq_some_iff.1 q1
  clear q1
  obtain ⟨zc, e3, q3⟩ := Option.bind_eq_some_iff.1 q2
  clear q2
  obtain ⟨xs, e4, e⟩ := Option.bind_eq_some_iff.1 q3
  clear q3
  have ht := telem_some e1
  obtain ⟨i', z, hi', hz, hzs, hzl, hzR⟩ := tzero_some e3
  rw [hi] at hi'; cases hi'
  split at e
  · cases e
  · rename_i hg
    have htx : t = tx := by by_cases h : t = tx; exact h; exact (hg (.inr h)).elim
    have hsize : i.size ≠ 0 := fun h => hg (.inl h)
    subst htx
    obtain ⟨bx, cx, news, rfl, hbn, hE, hnews⟩ := srcOf_sound hI e4 hx
    have zero : ∀ (base : Option Addr) (sLen sCap : Nat), sLen ≤ sCap → xs.length = 0 → (Builtin.append_ #[t, t] ty #[.slice base sLen sCap, .slice bx xs.length cx]).run P w = .ok (.slice base sLen sCap) w := by
      intro base sLen sCap h1 h2
      rw [h2]; exact run_append_zero ht hi base sLen sCap bx cx h1 w
    have some_ : xs.length ≠ 0 → ∃ a, bx = some a ∧ ∀ j u, news[j]? = some u → w.cell? (a.add j) = some u := by
      intro h
      cases bx with
      | none => rw [hbn rfl] at h; simp at h
      | some a => exact ⟨a, rfl, hnews a rfl⟩
    cases s with
    | junk => simp at e
    | agg _ => simp at e
    | tup _ => simp at e
    | one l =>
      cases l
      case nils =>
        dsimp only at e
        rw [hs.one_inv.nils_inv]
        split at e
        · rename_i h0
          cases e
          exact ⟨M, w, _, .refl M, hI, .one (.pure .nils), .refl B w, zero none 0 0 (Nat.le_refl _) h0⟩
        · rename_i h0
          split at e
          · rename_i hb
            obtain ⟨a, rfl, hn⟩ := some_ h0
            exact run_fresh hI ht hi hz hzs e (.inl rfl) a cx news hE hn (by omega) hb.1 hb.2
          · cases e
      case zsl =>
        dsimp only at e
        split at e
        · rename_i h0
          cases e
          rcases hs.one_inv.zsl_inv with rfl | ⟨sa, rfl⟩
          · exact ⟨M, w, _, .refl M, hI, .one (.pure .zslnil), .refl B w, zero none 0 0 (Nat.le_refl _) h0⟩
          · exact ⟨M, w, _, .refl M, hI, .one (.pure (.zsl sa)), .refl B w, zero (some sa) 0 0 (Nat.le_refl _) h0⟩
        · rename_i h0
          split at e
          · rename_i hb
            obtain ⟨a, rfl, hn⟩ := some_ h0
            exact run_fresh hI ht hi hz hzs e hs.one_inv.zsl_inv a cx news hE hn (by omega) hb.1 hb.2
          · cases e
      case sl id esz sz off len =>
        dsimp only at e
        obtain ⟨r, e5, e6⟩ := Option.bind_eq_some_iff.1 e
        clear e
        have e := e6
        clear e6
        obtain ⟨h1, h2⟩ := rowAt_some e5
        rcases hs.one_inv.sl_inv with ⟨rfl, rfl, rfl, rfl, z5⟩ | ⟨cap, sa, hb, hus, k1, k2, k3, k4, k5, k6, k7, k8, k9⟩
        · split at e
          · cases e
          · rename_i hq
            have hq1 : r.1 = esz := by by_cases h : r.1 = esz; exact h; exact (hq (.inl h)).elim
            have hq2 : esz = i.size := by by_cases h : esz = i.size; exact h; exact (hq (.inr h)).elim
            split at e
            · rename_i h0
              cases e
              exact ⟨M, w, _, .refl M, hI, hs, .refl B w, zero none 0 0 (Nat.le_refl _) h0⟩
            · rename_i h0
              obtain ⟨a, rfl, hn⟩ := some_ h0
              rw [if_pos (by rfl)] at e
              split at e
              · rename_i hb
                cases e
                obtain ⟨_, hb1, hb2⟩ := hb
                have hr0 : r.2 = [] := List.eq_nil_of_length_eq_zero h2
                have hr1 : r.1 = i.size := by omega
                rw [hr1, hr0] at h1
                rw [hr0, hq2]
                simp only [List.nil_append, Nat.zero_add] at hb1 hb2 ⊢
                have hr := run_append_nil (P := P) w t ty el i z ht hi hz a xs.length cx news hE.1 hn (by omega) (by omega) (by omega)
                have hcap := grownCap_ge w xs.length 0 el
                have hnl : news.length = xs.length * i.size := hE.1
                have hq := hI.drew.moved (id := id) (e := el) (elems' := xs) (cap := grownCap w xs.length 0 el)
                  (arr' := ([] : List Value).toArray ++ news.toArray ++ Builtin.zeroCells z.cells (grownCap w xs.length 0 el - xs.length)) h1 (by simp; omega)
                  (grown_size (need := xs.length) hzs (by simpa using hnl) hcap) hcap hE.2.1 (fun k j hk hj => by
                    rw [grown_get _ (by have := idx_lt hk hj; simp; omega)]
                    simpa using hE.2.2 k j hk hj)
                have hr' : (Builtin.append_ #[t, t] ty #[.slice none 0 0, .slice (some a) xs.length cx]).run P w = .ok (.slice (some ⟨w.heap.size, 0, none⟩) xs.length (grownCap w xs.length 0 el))
                    (w.drew.alloc (.cells (([] : List Value).toArray ++ news.toArray ++ Builtin.zeroCells z.cells (grownCap w xs.length 0 el - xs.length)) el)) := by rw [hr]; simp
                refine ⟨_, _, _, hq.1, hq.2, ?_, (Below.refl B w).drew.alloc hI.base _, hr'⟩
                exact .one (VR.sl id xs.length 0 xs.length _ ⟨w.heap.size, 0, none⟩ ⟨w.drew.heap.size, i.size, grownCap w xs.length 0 el⟩ (Mem.add_same _ _ _ _) rfl rfl (.inr (by simp)) (by omega) (by omega) (by simp) hcap)
              · cases e
        subst hus
        obtain ⟨c, cp, arr, tt, g1, g2, g3, g4, g5, g6, g7, g8⟩ := hI.rowOf h1 k1
        have hk1 := k1
        rw [h2, k1] at g1; cases g1
        simp only at k2 k3 k5 k8
        split at e
        · cases e
        · rename_i hq
          have hq1 : r.1 = esz := by by_cases h : r.1 = esz; exact h; exact (hq (.inl h)).elim
          have hq2 : esz = i.size := by by_cases h : esz = i.size; exact h; exact (hq (.inr h)).elim
          split at e
          · rename_i h0
            cases e
            exact ⟨M, w, _, .refl M, hI, hs, .refl B w, zero (some sa) len cap k9 h0⟩
          · rename_i h0
            obtain ⟨a, rfl, hn⟩ := some_ h0
            obtain ⟨sblk, soff, ssp⟩ := sa
            simp only at k3 k4 k5
            have k3' := k3.symm; subst k3'; subst k4
            rw [← k2] at k5
            have hr1 : r.1 = i.size := by omega
            rw [hr1] at g5 g7 g8 k5 hk1 h1
            rw [show esz = i.size from hq2] at *
            split at e
            · rename_i htip
              split at e
              · rename_i hb
                cases e
                obtain ⟨rfl, hb1, hb2⟩ := hb
                have hls : len = sz := by omega
                subst hls
                simp only [Nat.zero_add] at k7 k8
                have rowE : ElR M i.size r.2 ((arr.toList.take (len * i.size))) := by
                  have hle : len * i.size ≤ arr.size := by rw [g5]; exact Nat.mul_le_mul_right _ (by omega)
                  refine ⟨by rw [h2]; simp; omega, g7, fun p q hp hq => ?_⟩
                  have hlt := idx_lt hp hq
                  rw [h2] at hlt
                  have : (arr.toList.take (len * i.size)).getD (p * i.size + q) undef = arr.getD (p * i.size + q) undef := by
                    rw [← getD_toList]; simp only [List.getD]; rw [List.getElem?_take, if_pos hlt]
                  rw [this]; exact g8 p q hp hq
                have appE := rowE.append hE
                have hnl : (r.2 ++ xs).length = len + xs.length := by rw [List.length_append, h2]
                by_cases hroom : len + xs.length ≤ cap
                · have hc0 : soff = 0 := by
                    rcases k5 with h | h
                    · omega
                    · simpa using h
                  subst hc0
                  have hfit : 0 + len * i.size + news.length ≤ arr.size := by
                    rw [hE.1, g5, Nat.zero_add, ← Nat.add_mul]; exact Nat.mul_le_mul_right _ (by omega)
                  have hr := run_append_room' (P := P) (ty := ty) ht hi c 0 len cap arr tt g3 a xs.length cx news hE.1 hn hE.one hroom hfit
                  simp only [Nat.zero_add] at hr hfit
                  have hq := hI.setRow (id := id) (elems' := r.2 ++ xs) (arr' := (arr.toList.take (len * i.size) ++ news ++ arr.toList.drop (len * i.size + news.length)).toArray) h1 (by rw [h2]; exact hk1) g3
                    (by have := splice_length arr.toList news (len * i.size) (by simpa using hfit); simpa using this) (by simp) (by rw [hnl]; omega) appE.2.1
                    (fun p q hp hq => by
                      have hlt := idx_lt hp hq
                      rw [hnl] at hlt
                      have : ((arr.toList.take (len * i.size) ++ news ++ arr.toList.drop (len * i.size + news.length)).toArray).getD (p * i.size + q) undef = (arr.toList.take (len * i.size) ++ news).getD (p * i.size + q) undef := by
                        rw [← getD_toList]; simp only [List.getD]
                        rw [List.getElem?_append_left]
                        have hA : len * i.size ≤ arr.size := by omega
                        rw [List.length_append, List.length_take, hE.1]
                        have := Nat.add_mul len xs.length i.size
                        simp only [Array.length_toList]; omega
                      rw [this]; exact appE.2.2 p q hp hq)
                  refine ⟨_, _, _, hq.1, hq.2, ?_, Below.setRow' g2, hr⟩
                  have hh := Mem.add_same M id (r.2 ++ xs).length ⟨c, i.size, cp⟩
                  rw [hnl] at hh
                  refine .one (VR.sl id (len + xs.length) 0 (len + xs.length) cap ⟨c, 0, none⟩ ⟨c, i.size, cp⟩ ?_ rfl rfl (.inr (by simp)) (by omega) (by omega) (by simpa using k8) hroom)
                  rw [← hnl]; exact Mem.add_same _ _ _ _
                · have holds : ∀ j u, (arr.toList.take (len * i.size))[j]? = some u → w.cell? ((⟨c, soff, none⟩ : Addr).add j) = some u := by
                    intro j u hj
                    rcases Nat.eq_zero_or_pos len with hl0 | hlp
                    · rw [hl0] at hj; simp at hj
                    · have hc0 : soff = 0 := by
                        rcases k5 with h | h
                        · omega
                        · simpa using h
                      subst hc0
                      have hjl := (List.getElem?_eq_some_iff.1 hj).1
                      rw [List.length_take, Array.length_toList] at hjl
                      rw [List.getElem?_take, if_pos (by omega)] at hj
                      rw [Addr.add_lit, Nat.zero_add, cellOf g3 (by omega)]
                      rw [← getD_toList]; simp only [List.getD]; rw [hj]; rfl
                  have hle : len * i.size ≤ arr.size := by rw [g5]; exact Nat.mul_le_mul_right _ (by omega)
                  have hr := run_append_grow (P := P) w t ty el i z ht hi hz ⟨c, soff, none⟩ len cap (arr.toList.take (len * i.size)) (by simp; omega) holds a xs.length cx news hE.1 hn (by omega) (by omega)
                    (growslice_fits (by omega) (by simpa using hb1))
                  have hcap := grownCap_ge w (len + xs.length) cap el
                  have hol : (arr.toList.take (len * i.size)).length = len * i.size := by simp; omega
                  have hq := hI.drew.moved (id := id) (e := el) (elems' := r.2 ++ xs) (cap := grownCap w (len + xs.length) cap el)
                    (arr' := (arr.toList.take (len * i.size)).toArray ++ news.toArray ++ Builtin.zeroCells z.cells (grownCap w (len + xs.length) cap el - (len + xs.length))) h1 (by rw [hnl, h2]; omega)
                    (grown_size (need := len + xs.length) hzs (by rw [hol, hE.1, Nat.add_mul]) hcap) (by rw [hnl]; exact hcap) appE.2.1
                    (fun p q hp hq => by
                      have hlt := idx_lt hp hq
                      rw [hnl, Nat.add_mul] at hlt
                      rw [grown_get _ (by rw [hol, hE.1]; exact hlt)]
                      exact appE.2.2 p q hp hq)
                  refine ⟨_, _, _, hq.1, hq.2, ?_, (Below.refl B w).drew.alloc hI.base _, hr⟩
                  refine .one (VR.sl id (len + xs.length) 0 (len + xs.length) _ ⟨w.heap.size, 0, none⟩ ⟨w.drew.heap.size, i.size, grownCap w (len + xs.length) cap el⟩ ?_ rfl rfl (.inr (by simp)) (by omega) (by omega) (by simp) hcap)
                  rw [← hnl]; exact Mem.add_same _ _ _ _
              · cases e
            · rename_i htip
              split at e
              · rename_i hmid
                cases e
                have hc0 : soff = off * i.size := by rcases k5 with h | h <;> omega
                subst hc0
                have hroom : len + xs.length ≤ cap := by omega
                have hfit : off * i.size + len * i.size + news.length ≤ arr.size := by
                  rw [hE.1, g5, ← Nat.add_mul, ← Nat.add_mul]; exact Nat.mul_le_mul_right _ (by omega)
                have hr := run_append_room' (P := P) (ty := ty) ht hi c (off * i.size) len cap arr tt g3 a xs.length cx news hE.1 hn hE.one hroom hfit
                rw [← Nat.add_mul] at hr hfit
                have hsl := splice_length r.2 xs (off + len) (by omega)
                have hq := hI.setRow (id := id) (elems' := r.2.take (off + len) ++ xs ++ r.2.drop (off + len + xs.length)) (arr' := (arr.toList.take ((off + len) * i.size) ++ news ++ arr.toList.drop ((off + len) * i.size + news.length)).toArray) h1 (by rw [h2]; exact hk1) g3
                  (by have := splice_length arr.toList news ((off + len) * i.size) (by simpa using hfit); simpa using this) (by rw [hsl]; exact Nat.le_refl _) (by rw [hsl]; omega)
                  (fun p hp => by
                    rw [hsl] at hp
                    rw [splice_getD r.2 xs (off + len) p [] (by omega)]
                    split
                    · exact hE.2.1 _ (by omega)
                    · exact g7 p hp)
                  (fun p q hp hq => by
                    rw [hsl] at hp
                    rw [splice_getD r.2 xs (off + len) p [] (by omega), ← getD_toList, show ((arr.toList.take ((off + len) * i.size) ++ news ++ arr.toList.drop ((off + len) * i.size + news.length)).toArray).toList = arr.toList.take ((off + len) * i.size) ++ news ++ arr.toList.drop ((off + len) * i.size + news.length) from rfl,
                      splice_getD arr.toList news ((off + len) * i.size) (p * i.size + q) undef (by simpa using hfit)]
                    by_cases hin : off + len ≤ p ∧ p < off + len + xs.length
                    · have hA : (off + len) * i.size ≤ p * i.size := Nat.mul_le_mul_right _ hin.1
                      have hB := idx_lt hin.2 hq
                      rw [Nat.add_mul] at hB
                      rw [if_pos hin, if_pos (by rw [hE.1]; omega), idx_sub hin.1]
                      exact hE.2.2 _ q (by omega) hq
                    · rw [if_neg hin, if_neg, getD_toList]
                      · exact g8 p q hp hq
                      · rintro ⟨q1, q2⟩
                        rw [hE.1] at q2
                        rcases Nat.lt_or_ge p (off + len) with hlt | hge
                        · have := idx_lt hlt hq; omega
                        · have hC : (off + len + xs.length) * i.size ≤ p * i.size := Nat.mul_le_mul_right _ (by omega)
                          rw [Nat.add_mul] at hC
                          omega)
                refine ⟨_, _, _, hq.1, hq.2, ?_, Below.setRow' g2, hr⟩
                exact .one (VR.sl id sz off (len + xs.length) cap ⟨c, off * i.size, none⟩ ⟨c, i.size, cp⟩ (hq.1.hist _ _ _ hk1) rfl rfl (.inr rfl) (by omega) (by omega) k8 hroom)
              · cases e
      all_goals (exact absurd e (by simp))
end
end Go.Proofs.YtkbdhjfjbkmkcaaGreat.Abs
