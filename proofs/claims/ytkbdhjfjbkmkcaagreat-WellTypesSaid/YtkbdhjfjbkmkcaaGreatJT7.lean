/- The abstract machine: operations that make or write memory. -/
import Derived.Test.YtkbdhjfjbkmkcaaGreatJT6
set_option linter.unusedSimpArgs false
set_option linter.unusedVariables false
namespace Go.Proofs.YtkbdhjfjbkmkcaaGreat.Abs
open Go Go.RowKit

section
variable {P : Program} {B : Nat} {M : Mem} {H : Heap} {w : World}

theorem idx_lt {i n j size : Nat} (hi : i < n) (hj : j < size) : i * size + j < n * size := by
  have h : (i + 1) * size ≤ n * size := Nat.mul_le_mul_right _ hi
  rw [Nat.add_mul, Nat.one_mul] at h
  omega

theorem idx_sub {i s j size : Nat} (h : s ≤ i) : i * size + j - s * size = (i - s) * size + j := by
  rw [Nat.sub_mul]
  have := Nat.mul_le_mul_right size h
  omega

def ElR (M : Mem) (size : Nat) (es : List (List Leaf)) (news : List Value) : Prop :=
  news.length = es.length * size ∧ (∀ i, i < es.length → (es.getD i []).length = size) ∧ ∀ i j, i < es.length → j < size → VR M ((es.getD i []).getD j .junk) (news.getD (i * size + j) undef)

theorem ElR.one {size : Nat} {es : List (List Leaf)} {news : List Value} (h : ElR M size es news) : ∀ u ∈ news, u.oneCell' = true := by
  intro u hu
  obtain ⟨j, hj, rfl⟩ := List.getElem_of_mem hu
  have hj' := hj
  rw [h.1] at hj'
  have hs : 0 < size := by
    rcases Nat.eq_zero_or_pos size with h0 | h0
    · subst h0; simp at hj'
    · exact h0
  have h1 : j / size < es.length := by rw [Nat.div_lt_iff_lt_mul hs]; exact hj'
  have h2 := h.2.2 (j / size) (j % size) h1 (Nat.mod_lt _ hs)
  rw [Nat.div_add_mod'] at h2
  have h3 : news.getD j undef = news[j] := by simp [List.getD, hj]
  rw [h3] at h2
  exact h2.one

theorem view_sound (hI : Inv B M H w) {l : Leaf} {es : List (List Leaf)} {v : Value} (e : view H l = some es) (hv : VR M l v) :
    ∃ base cap, v = .slice base es.length cap ∧ (base = none → es = []) ∧ ∀ size, (∀ i, i < es.length → (es.getD i []).length = size) →
      ∃ news, ElR M size es news ∧ ∀ a, base = some a → ∀ j u, news[j]? = some u → w.cell? (a.add j) = some u := by
  unfold view at e
  split at e
  · cases e
    rw [hv.nils_inv]
    exact ⟨none, 0, rfl, fun _ => rfl, fun size _ => ⟨[], ⟨by simp, by simp, by simp⟩, by simp⟩⟩
  · cases e
    rcases hv.zsl_inv with rfl | ⟨a, rfl⟩
    · exact ⟨none, 0, rfl, fun _ => rfl, fun size _ => ⟨[], ⟨by simp, by simp, by simp⟩, by simp⟩⟩
    · exact ⟨some a, 0, rfl, nofun, fun size _ => ⟨[], ⟨by simp, by simp, by simp⟩, by simp⟩⟩
  · rename_i es0
    cases e
    rcases hv.isl_inv with ⟨rfl, zb, rfl⟩ | ⟨a, arr, esz, cap, rfl, g0, g1, g2, g3, g4⟩
    · exact ⟨zb, 0, rfl, fun _ => rfl, fun size _ => ⟨[], ⟨by simp, by simp, by simp⟩, by simp⟩⟩
    refine ⟨some a, cap, rfl, nofun, fun size hsz => ?_⟩
    rcases Nat.eq_zero_or_pos es.length with h0 | hpos
    · have : es = [] := List.eq_nil_of_length_eq_zero h0
      subst this
      exact ⟨[], ⟨by simp, by simp, by simp⟩, by simp⟩
    · have hss : size = esz := by rw [← hsz 0 hpos, g2 0 hpos]
      subst hss
      rcases g1 with g1 | ⟨g1, g1'⟩
      · subst g1; simp at hpos
      · obtain ⟨ty, fr, g⟩ := hI.stab _ _ g1
        refine ⟨(List.range (es.length * size)).map fun j => arr.getD (a.off + j) undef, ⟨by simp, hsz, fun i j hi hj => ?_⟩, fun a' ha j u hj => ?_⟩
        · have hlt := idx_lt hi hj
          have : ((List.range (es.length * size)).map fun j => arr.getD (a.off + j) undef).getD (i * size + j) undef = arr.getD (a.off + (i * size + j)) undef := by simp [List.getD, hlt]
          rw [this, ← Nat.add_assoc]
          exact .pure (g3 i j hi hj)
        · cases ha
          simp only [List.getElem?_map, Option.map_eq_some_iff] at hj
          obtain ⟨j', hj1, rfl⟩ := hj
          obtain ⟨hj3, rfl⟩ := range_some hj1
          obtain ⟨blk, off, sp⟩ := a
          simp only at g0 g g1' ⊢
          subst g0
          rw [Addr.add_lit]
          exact cellOf g (by omega)
  · rename_i id esz sz off len
    obtain ⟨r, e1, e2⟩ := Option.bind_eq_some_iff.1 e
    split at e2
    · rename_i hc
      cases e2
      obtain ⟨h1, h2⟩ := rowAt_some e1
      rcases hv.sl_inv with ⟨rfl, rfl, rfl, rfl, _⟩ | ⟨cap, a, hb, rfl, k1, k2, k3, k4, k5, k6, k7, k8, k9⟩
      · exact ⟨none, 0, by simp, fun _ => by simp, fun size _ => ⟨[], ⟨by simp, by simp, by simp⟩, by simp⟩⟩
      obtain ⟨c, cp, arr, ty, g1, g2, g3, g4, g5, g6, g7, g8⟩ := hI.rowOf h1 k1
      rw [h2, k1] at g1; cases g1
      have hlen : ((r.2.drop off).take len).length = len := by simp; omega
      have hget : ∀ i, i < len → ((r.2.drop off).take len).getD i [] = r.2.getD (off + i) [] := by
        intro i hi; simp [List.getD, List.getElem?_take, hi]
      refine ⟨some a, cap, by rw [hlen], nofun, fun size hsz => ?_⟩
      rw [hlen] at hsz
      rcases Nat.eq_zero_or_pos len with h0 | hpos
      · subst h0
        exact ⟨[], ⟨by simp, by simp, by simp⟩, by simp⟩
      · have hss : size = r.1 := by rw [← hsz 0 hpos, hget 0 hpos, g7 _ (by omega)]
        subst hss
        have hao : a.off = off * r.1 := by
          rw [← hc.1] at k5
          rcases k5 with k5 | k5 <;> omega
        have hbd : off * r.1 + len * r.1 ≤ arr.size := by
          rw [g5, ← Nat.add_mul]; exact Nat.mul_le_mul_right _ (by omega)
        refine ⟨(List.range (len * r.1)).map fun j => arr.getD (off * r.1 + j) undef, ⟨by simp [hlen], by rw [hlen]; exact hsz, fun i j hi hj => ?_⟩, fun a' ha j u hj => ?_⟩
        · rw [hlen] at hi
          have hlt := idx_lt hi hj
          have : ((List.range (len * r.1)).map fun j => arr.getD (off * r.1 + j) undef).getD (i * r.1 + j) undef = arr.getD (off * r.1 + (i * r.1 + j)) undef := by simp [List.getD, hlt]
          rw [this, hget i hi]
          have := g8 (off + i) j (by omega) hj
          rwa [Nat.add_mul, Nat.add_assoc] at this
        · cases ha
          simp only [List.getElem?_map, Option.map_eq_some_iff] at hj
          obtain ⟨j', hj1, rfl⟩ := hj
          obtain ⟨hj3, rfl⟩ := range_some hj1
          obtain ⟨blk, ao, sp⟩ := a
          simp only at k3 k4 hao ⊢
          subst k4; subst hao; subst k3
          rw [Addr.add_lit]
          exact cellOf g3 (by omega)
    · cases e2
  · cases e

theorem sized_iff {n : Nat} {es : List (List Leaf)} (h : sized n es = true) : ∀ i, i < es.length → (es.getD i []).length = n := by
  intro i hi
  have := (List.all_eq_true.1 h) es[i] (List.getElem_mem hi)
  simpa [List.getD, hi] using this

theorem srcOf_sound (hI : Inv B M H w) {size : Nat} {tx : TypeId} {x : V} {es : List (List Leaf)} {v : Value} (e : srcOf P H size tx x = some es) (hv : VV M x v) :
    ∃ base cap news, v = .slice base es.length cap ∧ (base = none → es = []) ∧ ElR M size es news ∧ ∀ a, base = some a → ∀ j u, news[j]? = some u → w.cell? (a.add j) = some u := by
  unfold srcOf at e
  split at e
  · obtain ⟨es', e1, e2⟩ := Option.bind_eq_some_iff.1 e
    split at e2
    · rename_i hs
      cases e2
      obtain ⟨base, cap, rfl, h1, h2⟩ := view_sound hI e1 hv.one_inv
      obtain ⟨news, h3, h4⟩ := h2 size (sized_iff hs)
      exact ⟨base, cap, news, rfl, h1, h3, h4⟩
    · cases e2
  · cases e

theorem Below.setRow' {B : Nat} {w : World} {c : Nat} {arr : Array Value} (h : B ≤ c) : Below B w (w.setRow c arr) :=
  ⟨⟨rfl, rfl, rfl, by simp [World.setRow], fun k hk => setRow_other w c k arr (by omega)⟩, fun k o hk ho => by
    by_cases e : k = c
    · subst e
      simp only [World.setRow, Array.getElem?_modify, if_true, hk, Option.map_some]
      cases o <;> first | rfl | (simp [isMark] at ho)
    · rw [setRow_other w c k arr e]; exact hk⟩

theorem wr_sound (hI : Inv B M H w) {l : Leaf} {new : List Leaf} {r : Heap × List Nat} {v : Value} {vs : List Value} (e : wr H l new = some r) (hv : VR M l v) (hn : CsR M new vs) :
    ∃ M' w' a, v = .pointer (some a) ∧ Ext M M' ∧ Inv B M' r.1 w' ∧ Below B w w' ∧ (storeCells a vs).run P w = .ok () w' := by
  unfold wr at e
  split at e
  · rename_i id sz i off
    obtain ⟨hb, hh, rfl⟩ := hv.ptr_inv
    obtain ⟨r0, e1, e2⟩ := Option.bind_eq_some_iff.1 e
    obtain ⟨ce, e3, e4⟩ := Option.bind_eq_some_iff.1 e2
    split at e4
    · rename_i hfit
      cases e4
      obtain ⟨h1, h2⟩ := rowAt_some e1
      obtain ⟨c, cap, arr, ty, g1, g2, g3, g4, g5, g6, g7, g8⟩ := hI.rowOf h1 hh
      rw [h2, hh] at g1; cases g1
      have hi : i < r0.2.length := (List.getElem?_eq_some_iff.1 e3).1
      have hce : r0.2.getD i [] = ce := by simp [List.getD, e3]
      have hlen := g7 i hi
      rw [hce] at hlen
      have hvl : vs.length = new.length := hn.1
      have hfit2 : i * r0.1 + off + vs.length ≤ arr.size := by
        have hA : (i + 1) * r0.1 ≤ cap * r0.1 := Nat.mul_le_mul_right _ (by omega)
        rw [Nat.add_mul, Nat.one_mul] at hA
        omega
      have hone : ∀ v ∈ vs, v.oneCell' = true := by
        intro v hv
        obtain ⟨j, hj, rfl⟩ := List.getElem_of_mem hv
        have := (hn.2 j (by omega)).one
        simpa [List.getD, hj] using this
      have hst := run_storeCells_at P c (i * r0.1 + off) ty vs 0 arr w g3 (by simpa using hfit2) hone
      simp only [Nat.add_zero] at hst
      have hq := hI.setRow (id := id) (elems' := r0.2.set i (putCells ce off new)) (arr' := (arr.toList.take (i * r0.1 + off) ++ vs ++ arr.toList.drop (i * r0.1 + off + vs.length)).toArray) h1 (by rw [h2]; exact hh) g3
        (by have := splice_length arr.toList vs (i * r0.1 + off) (by simpa using hfit2); simpa using this) (by simp) (by simpa using g6)
        (fun k hk => by
          simp only [List.length_set] at hk
          by_cases hki : k = i
          · subst hki
            simp only [List.getD, List.getElem?_set, hk, if_true, Option.getD_some]
            rw [putCells_length (by omega)]; exact hlen
          · have := g7 k hk
            simpa [List.getD, List.getElem?_set, Ne.symm hki] using this)
        (fun k j hk hj => by
          simp only [List.length_set] at hk
          have hget : ((arr.toList.take (i * r0.1 + off) ++ vs ++ arr.toList.drop (i * r0.1 + off + vs.length)).toArray).getD (k * r0.1 + j) undef =
              if i * r0.1 + off ≤ k * r0.1 + j ∧ k * r0.1 + j < i * r0.1 + off + vs.length then vs.getD (k * r0.1 + j - (i * r0.1 + off)) undef else arr.getD (k * r0.1 + j) undef := by
            rw [← getD_toList, ← getD_toList]
            exact splice_getD arr.toList vs (i * r0.1 + off) (k * r0.1 + j) undef (by simpa using hfit2)
          rw [hget]
          by_cases hki : k = i
          · subst hki
            simp only [List.getD, List.getElem?_set, hk, if_true, Option.getD_some]
            show VR M ((putCells ce off new).getD j .junk) _
            rw [putCells_getD hfit]
            by_cases hj2 : off ≤ j ∧ j < off + new.length
            · rw [if_pos hj2, if_pos (by omega)]
              have h9 := hn.2 (j - off) (by omega)
              rw [show k * r0.1 + j - (k * r0.1 + off) = j - off by omega]
              exact h9
            · rw [if_neg hj2, if_neg (by omega)]
              have h9 := g8 k j hi hj
              rw [hce] at h9
              exact h9
          · have h10 : (r0.2.set i (putCells ce off new)).getD k [] = r0.2.getD k [] := by simp [List.getD, List.getElem?_set, Ne.symm hki]
            rw [h10, if_neg]
            · exact g8 k j hk hj
            · rintro ⟨q1, q2⟩
              rcases Nat.lt_or_gt_of_ne hki with hlt | hgt
              · have h11 := idx_lt hlt hj
                omega
              · have h11 : (i + 1) * r0.1 ≤ k * r0.1 := Nat.mul_le_mul_right _ hgt
                rw [Nat.add_mul, Nat.one_mul] at h11
                omega)
      exact ⟨_, _, _, rfl, hq.1, hq.2, Below.setRow' g2, hst⟩
    · cases e4
  · cases e

theorem alloc_sound (hI : Inv B M H w) {slot : Option Nat} {esz cap : Nat} {elems : List (List Leaf)} {mk : Nat → V} {v : V} {H' : Heap} {ws : List Nat}
    (e : allocR slot H (.row esz elems) mk = some (v, H', ws)) {arr : Array Value} (ty : TypeId) (hs : arr.size = cap * esz) (hc : elems.length ≤ cap)
    (hz : ∀ i, i < elems.length → (elems.getD i []).length = esz) (hv : ∀ i j, i < elems.length → j < esz → VR M ((elems.getD i []).getD j .junk) (arr.getD (i * esz + j) undef)) :
    ∃ id M', v = mk id ∧ Ext M M' ∧ Inv B M' H' (w.alloc (.cells arr ty)) ∧ M'.hist id elems.length = some ⟨w.heap.size, esz, cap⟩ := by
  unfold allocR at e
  obtain ⟨r, e1, e2⟩ := Option.map_eq_some_iff.1 e
  cases e2
  have := hI.alloc (arr := arr) (e := ty) (cap := cap) e1 hs hc hz hv
  exact ⟨r.1, _, rfl, this.1, this.2, Mem.add_same _ _ _ _⟩
end
end Go.Proofs.YtkbdhjfjbkmkcaaGreat.Abs
