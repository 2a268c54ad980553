/- The abstract machine: copy, make, literals of slices; lengths; bytes as a string. -/
import Derived.Test.YtkbdhjfjbkmkcaaGreatJT8
import Derived.MapKept
import Derived.Laws.IdiomStrings
set_option linter.unusedSimpArgs false
set_option linter.unusedVariables false
namespace Go.Proofs.YtkbdhjfjbkmkcaaGreat.Abs
open Go Go.RowKit

section
variable {P : Program} {B : Nat} {M : Mem} {H : Heap} {w : World}

theorem getD_replicate {α : Type} (n i : Nat) (x d : α) (h : i < n) : (List.replicate n x).getD i d = x := by
  simp [List.getD, List.getElem?_replicate, h]

theorem flatten_getD (z : List Leaf) : ∀ (n i j : Nat), i < n → j < z.length → ((List.replicate n z).flatten).getD (i * z.length + j) .junk = z.getD j .junk
  | 0, i, j, hi, hj => by omega
  | n + 1, i, j, hi, hj => by
    rw [List.replicate_succ, List.flatten_cons]
    simp only [List.getD]
    rcases Nat.eq_zero_or_pos i with h0 | h0
    · subst h0
      rw [List.getElem?_append_left (by omega), Nat.zero_mul, Nat.zero_add]
    · have h1 : z.length ≤ i * z.length := Nat.le_mul_of_pos_left _ h0
      rw [List.getElem?_append_right (by omega)]
      have := flatten_getD z n (i - 1) j (by omega) hj
      simp only [List.getD] at this
      rw [← this]
      congr 2
      rw [Nat.sub_mul, Nat.one_mul]; omega

theorem flatten_length (z : List Leaf) (n : Nat) : ((List.replicate n z).flatten).length = n * z.length := by simp

theorem made_R {size len : Nat} {z : List Leaf} {zv : Value} (hz : zv.cells.size = size) (hzl : z.length = size) (hR : CsR M z zv.cells.toList) (h0 : 0 < size) (c : Nat) (hc : len ≤ c) :
    (madeCells zv.cells (c * size)).size = c * size ∧ ∀ i j, i < len → j < size → VR M (z.getD j .junk) ((madeCells zv.cells (c * size)).getD (i * size + j) undef) := by
  refine ⟨by simp [madeCells], fun i j hi hj => ?_⟩
  rw [madeCells_getD _ _ _ (idx_lt (by omega) hj) (by omega), hz]
  have : (i * size + j) % size = j := by rw [Nat.mul_comm, Nat.mul_add_mod, Nat.mod_eq_of_lt hj]
  rw [this, ← getD_toList]
  exact hR.2 j (by omega)

theorem run_makeSliceV (hI : Inv B M H w) {slot : Option Nat} {t : TypeId} {l c v : V} {H' : Heap} {ws : List Nat} (e : makeSliceV P slot H t l c = some (v, H', ws)) {ul uc : Value} (hl : VV M l ul) (hc : VV M c uc) :
    Left B M H' v w ((Instr.makeSlice t ul uc).run P w) := by
  unfold makeSliceV at e
  obtain ⟨el, e1, q1⟩ := Option.bind_eq_some_iff.1 e
  obtain ⟨i, hi, q2⟩ := Option.bind_eq_some_iff.1 q1
  obtain ⟨z, e3, q3⟩ := Option.bind_eq_some_iff.1 q2
  obtain ⟨ln, e4, q4⟩ := Option.bind_eq_some_iff.1 q3
  obtain ⟨cn, e5, q5⟩ := Option.bind_eq_some_iff.1 q4
  obtain ⟨i', zv, hi', hz, hzs, hzl, hzR⟩ := tzero_some e3
  rw [hi] at hi'; cases hi'
  split at q5
  · rename_i hg
    obtain ⟨kl, rfl⟩ := natOf_inv hl e4
    obtain ⟨kc, rfl⟩ := natOf_inv hc e5
    have hr := run_make (P := P) w t el i zv (telem_some e1) hi hz kl kc ln cn (by omega) (by omega) (by rw [← Int.natCast_mul]; omega) (by omega)
    simp only [Int.toNat_natCast] at hr
    obtain ⟨m1, m2⟩ := made_R hzs hzl (hzR M) hg.2.2.2 cn hg.1
    obtain ⟨id, M', rfl, hx, hI', hh⟩ := alloc_sound (cap := cn) hI q5 (arr := madeCells zv.cells (cn * i.size)) el m1 (by simpa using hg.1)
      (fun k hk => by rw [List.length_replicate] at hk; rw [getD_replicate _ _ _ _ hk, hzl]) (fun k j hk hj => by rw [List.length_replicate] at hk; rw [getD_replicate _ _ _ _ hk]; exact m2 k j hk hj)
    rw [List.length_replicate] at hh
    refine ⟨M', _, _, hx, hI', ?_, (Below.refl B w).alloc hI.base _, hr⟩
    exact .one (VR.sl id ln 0 ln cn ⟨w.heap.size, 0, none⟩ _ hh rfl rfl (.inr (by simp)) (by simp) (by simpa using hg.1) (by simp) hg.1)
  · cases q5

theorem chunk_length (size : Nat) : ∀ (n : Nat) (cs : List Leaf), (chunk size n cs).length = n
  | 0, _ => rfl
  | n + 1, cs => by simp [chunk, chunk_length size n]

theorem chunk_getD (size : Nat) : ∀ (n : Nat) (cs : List Leaf) (i : Nat), i < n → (chunk size n cs).getD i [] = (cs.drop (i * size)).take size
  | 0, _, i, hi => by omega
  | n + 1, cs, 0, _ => by simp [chunk]
  | n + 1, cs, i + 1, hi => by
    have := chunk_getD size n (cs.drop size) i (by omega)
    simp only [chunk, List.getD, List.getElem?_cons_succ] at this ⊢
    rw [this, List.drop_drop]
    congr 2
    rw [Nat.add_mul, Nat.one_mul, Nat.add_comm]

theorem run_buildSliceV (hI : Inv B M H w) {slot : Option Nat} {t : TypeId} {len : Nat} {parts : List (Nat × V)} {v : V} {H' : Heap} {ws : List Nat} (e : buildSliceV P slot H t len parts = some (v, H', ws))
    {parts' : Array (Nat × Value)} (hl : parts'.toList.length = parts.length) (hp : ∀ (i : Nat) (p : Nat × V), parts[i]? = some p → ∃ p' : Nat × Value, parts'.toList[i]? = some p' ∧ p'.1 = p.1 ∧ VV M p.2 p'.2) :
    Left B M H' v w ((Instr.buildSlice t len parts').run P w) := by
  unfold buildSliceV at e
  obtain ⟨el, e1, q1⟩ := Option.bind_eq_some_iff.1 e
  obtain ⟨i, hi, q2⟩ := Option.bind_eq_some_iff.1 q1
  obtain ⟨z, e3, q3⟩ := Option.bind_eq_some_iff.1 q2
  obtain ⟨i', zv, hi', hz, hzs, hzl, hzR⟩ := tzero_some e3
  rw [hi] at hi'; cases hi'
  split at q3
  · cases q3
  · rename_i hg
    have hs0 : 0 < i.size := by omega
    obtain ⟨cs, e4, q4⟩ := Option.bind_eq_some_iff.1 q3
    have hsz := run_sizeOf' (P := P) (t := el) (n := i.size) (by simp [tsize, hi]) w
    obtain ⟨m1, m2⟩ := made_R (len := len) hzs hzl (hzR M) hs0 len (Nat.le_refl _)
    have hzero : CsR M ((List.replicate len z).flatten) (madeCells zv.cells (len * i.size)).toList := by
      refine ⟨by rw [flatten_length, hzl]; simpa using m1, fun k hk => ?_⟩
      rw [flatten_length, hzl] at hk
      have hd : k / i.size < len := by rw [Nat.div_lt_iff_lt_mul hs0]; exact hk
      have hm := Nat.mod_lt k hs0
      have := m2 (k / i.size) (k % i.size) hd hm
      have h2 := flatten_getD z len (k / i.size) (k % i.size) hd (by omega)
      rw [hzl, Nat.div_add_mod'] at h2
      rw [Nat.div_add_mod'] at this
      rw [h2, getD_toList]; exact this
    obtain ⟨arr', g1, g2⟩ := run_fill (M := M) (fun k => some (k * i.size, i.size)) parts parts'.toList _ cs (madeCells zv.cells (len * i.size)) hl hp hzero e4
    have hlen : ∀ (place : Nat → Option (Nat × Nat)) (ps : List (Nat × V)) (a r : List Leaf), fillAt place a ps = some r → r.length = a.length := by
      intro place ps
      induction ps with
      | nil => intro a r h; cases h; rfl
      | cons p ps ih =>
        intro a r h
        obtain ⟨k, x⟩ := p
        unfold fillAt at h
        split at h
        · cases h
        · split at h
          · cases h
          · cases h
          · split at h
            · cases h
            · rename_i hgg
              rw [ih _ _ h, putCells_length (by omega)]
    have hcl : cs.length = len * i.size := by rw [hlen _ _ _ _ e4, flatten_length, hzl]
    have hal : arr'.size = len * i.size := by have := g2.1; simp only [Array.length_toList] at this; omega
    have hel : ∀ k, k < len → ((chunk i.size len cs).getD k []).length = i.size := by
      intro k hk
      rw [chunk_getD _ _ _ _ hk, List.length_take, List.length_drop, hcl]
      have := idx_lt hk (show i.size - 1 < i.size by omega)
      omega
    obtain ⟨id, M', rfl, hx, hI', hh⟩ := alloc_sound (cap := len) hI q4 (arr := arr') el hal (by rw [chunk_length]; exact Nat.le_refl _)
      (fun k hk => by rw [chunk_length] at hk; exact hel k hk)
      (fun k j hk hj => by
        rw [chunk_length] at hk
        have hlt := idx_lt hk hj
        have : ((chunk i.size len cs).getD k []).getD j .junk = cs.getD (k * i.size + j) .junk := by
          rw [chunk_getD _ _ _ _ hk]
          simp [List.getD, List.getElem?_take, hj]
        rw [this, ← getD_toList]
        exact g2.2 _ (by omega))
    rw [chunk_length] at hh
    refine ⟨M', _, .slice (some ⟨w.heap.size, 0, none⟩) len len, hx, hI', ?_, (Below.refl B w).alloc hI.base _, ?_⟩
    · exact .one (VR.sl id len 0 len len ⟨w.heap.size, 0, none⟩ _ hh rfl rfl (.inr (by simp)) (by simp) (by simp) (by simp) (Nat.le_refl _))
    · have hmade : (Array.range (len * i.size)).map (zv.cells[· % zv.cells.size]!) = madeCells zv.cells (len * i.size) := rfl
      have hng : ¬ len * i.size > 16777216 := fun h => hg (.inl h)
      by_cases hz0 : len * i.size = 0
      · have : madeCells zv.cells (len * i.size) = #[] := by rw [hz0]; simp [madeCells, Array.range_zero']
        rw [this] at g1
        simp [Instr.buildSlice, run_underlying (telem_some e1), hsz, hz0, Array.range_zero', g1, newRow]
      · simp only [Instr.buildSlice, Sem.run_bind, run_underlying (telem_some e1), Result.andThen_ok, hsz]
        rw [if_neg hng]
        simp only [hz0, if_false, Sem.run_bind, Sem.run_pure, run_zeroValue' hi hz, Result.andThen_ok, hmade, g1]
        simp [newRow]

theorem run_copyV (hI : Inv B M H w) {t tx ty : TypeId} {d x v : V} {H' : Heap} {ws : List Nat} (e : copyV P H t tx d x = some (v, H', ws)) {ud ux : Value} (hd : VV M d ud) (hx : VV M x ux) :
    Left B M H' v w ((Builtin.copy_ #[t, tx] ty #[ud, ux]).run P w) := by
  unfold copyV at e
  obtain ⟨el, e1, q1⟩ := Option.bind_eq_some_iff.1 e
  clear e
  obtain ⟨i, hi, q2⟩ := Option.bind_eq_some_iff.1 q1
  clear q1
  obtain ⟨xs, e4, q3⟩ := Option.bind_eq_some_iff.1 q2
  clear q2
  have ht := telem_some e1
  split at q3
  · cases q3
  · rename_i hg
    have htx : t = tx := by by_cases h : t = tx; exact h; exact (hg h).elim
    subst htx
    obtain ⟨bx, cx, news, rfl, hbn, hE, hnews⟩ := srcOf_sound hI e4 hx
    cases d with
    | junk => simp at q3
    | agg _ => simp at q3
    | tup _ => simp at q3
    | one l =>
      cases l
      case sl id esz sz off len =>
        dsimp only at q3
        obtain ⟨r, e5, q4⟩ := Option.bind_eq_some_iff.1 q3
        clear q3
        obtain ⟨h1, h2⟩ := rowAt_some e5
        split at q4
        · cases q4
        · rename_i hq
          have hq4 : 0 < sz := by by_cases h : sz = 0; exact (hq (.inr (.inr (.inr h)))).elim; omega
          obtain ⟨cap, sa, hb, rfl, k1, k2, k3, k4, k5, k6, k7, k8, k9⟩ := hd.one_inv.sl_at (.inl hq4)
          obtain ⟨c, cp, arr, tt, g1, g2, g3, g4, g5, g6, g7, g8⟩ := hI.rowOf h1 k1
          have hk1 := k1
          rw [h2, k1] at g1; cases g1
          simp only at k2 k3 k5 k8
          have hq1 : r.1 = esz := by by_cases h : r.1 = esz; exact h; exact (hq (.inl h)).elim
          have hq2 : esz = i.size := by by_cases h : esz = i.size; exact h; exact (hq (.inr (.inl h))).elim
          have hq3 : off + len ≤ sz := by by_cases h : sz < off + len; exact (hq (.inr (.inr (.inl h)))).elim; omega
          cases q4
          obtain ⟨sblk, soff, ssp⟩ := sa
          simp only at k3 k4 k5
          have k3' := k3.symm; subst k3'; subst k4
          have hr1 : r.1 = i.size := by omega
          have hesz : esz = i.size := hq2
          subst hesz
          rw [hr1] at g5 g7 g8 hk1 h1
          generalize hn : Nat.min xs.length len = n
          have hn1 : n ≤ xs.length := by rw [← hn]; exact Nat.min_le_left _ _
          have hn2 : n ≤ len := by rw [← hn]; exact Nat.min_le_right _ _
          have hnn : (news.take (n * i.size)).length = n * i.size := by
            have : n * i.size ≤ xs.length * i.size := Nat.mul_le_mul_right _ hn1
            rw [List.length_take, hE.1]; omega
          have hcells : (Builtin.firstCells i.size n (.slice bx xs.length cx)).run P w = .ok (news.take (n * i.size)).toArray w := by
            cases bx with
            | none =>
              have hx0 : xs = [] := hbn rfl
              have : n = 0 := by rw [hx0] at hn1; simpa using hn1
              subst this
              simp [run_firstCells_none]
            | some a =>
              exact run_firstCells_some w i.size n a _ _ _ hnn (fun j u hj => by
                have hjl := (List.getElem?_eq_some_iff.1 hj).1
                rw [hnn] at hjl
                rw [List.getElem?_take, if_pos hjl] at hj
                exact hnews a rfl j u hj)
          have hone : ∀ u ∈ news.take (n * i.size), u.oneCell' = true := fun u hu => hE.one u (List.mem_of_mem_take hu)
          have hfit : off * i.size + (news.take (n * i.size)).length ≤ arr.size := by
            rw [hnn, g5, ← Nat.add_mul]; exact Nat.mul_le_mul_right _ (by omega)
          have hst : ∃ w', (storeCells ⟨c, soff, none⟩ (news.take (n * i.size))).run P w = .ok () w' ∧ w' = w.setRow c (arr.toList.take (off * i.size) ++ news.take (n * i.size) ++ arr.toList.drop (off * i.size + (news.take (n * i.size)).length)).toArray := by
            rcases Nat.eq_zero_or_pos n with h0 | h0
            · have hnil : news.take (n * i.size) = [] := by rw [h0]; simp
              rw [hnil]
              refine ⟨w, by simp [storeCells], ?_⟩
              have := setRow_self w c arr tt (0, 0) g3
              simp only [List.append_nil, List.length_nil, Nat.add_zero, List.take_append_drop, Array.toArray_toList]
              exact this.symm
            · have hc0 : soff = off * i.size := by
                rcases k5 with h | h <;> omega
              subst hc0
              have := run_storeCells_at P c (off * i.size) tt (news.take (n * i.size)) 0 arr w g3 (by simpa using hfit) hone
              simp only [Nat.add_zero] at this
              exact ⟨_, this, rfl⟩
          obtain ⟨w', hst, hw'⟩ := hst
          have hxn : (xs.take n).length = n := by simp; omega
          have hsl := splice_length r.2 (xs.take n) off (by rw [hxn]; omega)
          rw [hxn] at hsl
          have hq := hI.setRow (id := id) (elems' := r.2.take off ++ xs.take n ++ r.2.drop (off + n)) (arr' := (arr.toList.take (off * i.size) ++ news.take (n * i.size) ++ arr.toList.drop (off * i.size + (news.take (n * i.size)).length)).toArray) h1 (by rw [h2]; exact hk1) g3
            (by have := splice_length arr.toList (news.take (n * i.size)) (off * i.size) (by simpa using hfit); simpa using this) (by rw [hsl]; exact Nat.le_refl _) (by rw [hsl]; omega)
            (fun p hp => by
              rw [hsl] at hp
              have := splice_getD r.2 (xs.take n) off p [] (by rw [hxn]; omega)
              rw [hxn] at this
              rw [this]
              split
              · rename_i hin
                have : (xs.take n).getD (p - off) [] = xs.getD (p - off) [] := by simp only [List.getD]; rw [List.getElem?_take, if_pos (by omega)]
                rw [this]; exact hE.2.1 _ (by omega)
              · exact g7 p hp)
            (fun p q hp hq => by
              rw [hsl] at hp
              have e1 := splice_getD r.2 (xs.take n) off p [] (by rw [hxn]; omega)
              rw [hxn] at e1
              rw [e1, ← getD_toList, show ((arr.toList.take (off * i.size) ++ news.take (n * i.size) ++ arr.toList.drop (off * i.size + (news.take (n * i.size)).length)).toArray).toList = arr.toList.take (off * i.size) ++ news.take (n * i.size) ++ arr.toList.drop (off * i.size + (news.take (n * i.size)).length) from rfl,
                splice_getD arr.toList (news.take (n * i.size)) (off * i.size) (p * i.size + q) undef (by simpa using hfit), hnn]
              by_cases hin : off ≤ p ∧ p < off + n
              · have hA : off * i.size ≤ p * i.size := Nat.mul_le_mul_right _ hin.1
                have hB := idx_lt hin.2 hq
                rw [Nat.add_mul] at hB
                rw [if_pos hin, if_pos (by omega), idx_sub hin.1]
                have h5 : (xs.take n).getD (p - off) [] = xs.getD (p - off) [] := by simp only [List.getD]; rw [List.getElem?_take, if_pos (by omega)]
                have hlt := idx_lt (show p - off < n by omega) hq
                have h6 : (news.take (n * i.size)).getD ((p - off) * i.size + q) undef = news.getD ((p - off) * i.size + q) undef := by simp only [List.getD]; rw [List.getElem?_take, if_pos hlt]
                rw [h5, h6]
                exact hE.2.2 _ q (by omega) hq
              · rw [if_neg hin, if_neg, getD_toList]
                · exact g8 p q hp hq
                · rintro ⟨q1, q2⟩
                  rcases Nat.lt_or_ge p off with hlt | hge
                  · have := idx_lt hlt hq; omega
                  · have hC : (off + n) * i.size ≤ p * i.size := Nat.mul_le_mul_right _ (by omega)
                    rw [Nat.add_mul] at hC
                    omega)
          rw [← hw'] at hq
          refine ⟨_, w', .int .i64 n, hq.1, hq.2, .int _ _, by rw [hw']; exact Below.setRow' g2, ?_⟩
          have hsz := run_sizeOf' (P := P) (t := el) (n := i.size) (by simp [tsize, hi]) w
          simp [Builtin.copy_, run_underlying ht, Builtin.lenOf, hn, hsz, hcells, hst, goInt]
      all_goals (exact absurd q3 (by simp))

theorem run_lenL (hI : Inv B M H w) {l : Leaf} {n : Nat} {u : Value} {t ty : TypeId} (e : lenL H l = some n) (hu : VR M l u)
    (ht : lenOK P t l = true) :
    (Builtin.len_ #[t] ty #[u]).run P w = .ok (.int .i64 n) w := by
  unfold lenOK at ht
  split at ht
  · rename_i h; cases e; rw [hu.str_inv]; simp [Builtin.len_, run_underlying h, goInt]; rfl
  · rename_i h; cases e; rw [hu.nils_inv]; simp [Builtin.len_, run_underlying h, goInt]
  · rename_i h; cases e; rcases hu.zsl_inv with rfl | ⟨_, rfl⟩ <;> simp [Builtin.len_, run_underlying h, goInt]
  · rename_i h; cases e; rcases hu.isl_inv with ⟨rfl, _, rfl⟩ | ⟨_, _, _, _, rfl, _⟩ <;> simp [Builtin.len_, run_underlying h, goInt]
  · rename_i h; cases e; rcases hu.sl_inv with ⟨_, _, rfl, rfl, _⟩ | ⟨_, _, _, rfl, _⟩ <;> simp [Builtin.len_, run_underlying h, goInt]
  · rename_i h
    obtain ⟨r, rfl, hr⟩ := hu.map_inv
    simp only [lenL] at e
    split at e
    · rename_i ck es hes
      cases e
      obtain ⟨r', ms, g1, g2, g3, g4, g5⟩ := hI.mpr _ _ _ hes
      rw [hr] at g1; cases g1
      have : (getObj r).run P w = .ok (.map ms ck) w := by simp [getObj, Sem.run, g3]
      simp [Builtin.len_, run_underlying h, goInt, this, g4]
    · cases e
  · rename_i h; cases e; rw [hu.nilm_inv]; simp [Builtin.len_, run_underlying h, goInt]
  · rename_i h
    obtain ⟨r, ms, arrs, rfl, g1, g2, g3, g4, g5, g6⟩ := hu.imap_inv
    simp only [lenL, Option.some.injEq] at e
    subst e
    obtain ⟨ck, k1⟩ := hI.mstab _ _ g1
    have : (getObj r).run P w = .ok (.map ms ck) w := by simp [getObj, Sem.run, k1]
    simp [Builtin.len_, run_underlying h, goInt, this, g2]
  · cases ht

/-! Maps. -/
theorem run_underlyingMap {t : TypeId} {q : TypeDesc × TypeId} (h : mapT P t = some q) : ∃ k, P.underlying t = some (.map k q.2) ∧ P.underlying k = some q.1 := by
  unfold mapT at h
  split at h
  · rename_i k e h1
    split at h
    · rename_i d h2
      cases h
      exact ⟨k, h1, h2⟩
    · cases h
  · cases h

theorem isKeyL_sound {d : TypeDesc} {l : Leaf} {u : Value} (h : isKeyL d l = true) (hu : VR M l u) : MapKept.IsKey d u := by
  unfold isKeyL at h
  split at h
  · split at h
    · rw [hu.int_inv]; exact (of_decide_eq_true h : _ = _)
    · cases h
  · split at h
    · rw [hu.str_inv]; trivial
    · cases h
  · split at h
    · rw [hu.bool_inv]; trivial
    · cases h
  · cases h

theorem keyEq_sound {d : TypeDesc} {x y : Leaf} {u v : Value} {b : Bool} (h : keyEq d x y = some b) (hx : VR M x u) (hy : VR M y v) : Instr.sameNow d u v = some b := by
  unfold keyEq at h
  split at h
  · split at h
    · split at h
      · rename_i hjk
        subst hjk
        cases h
        rw [hx.int_inv, hy.int_inv]
        simp [Instr.sameNow]
      · cases h
    · cases h
  · split at h
    · cases h
      rw [hx.str_inv, hy.str_inv]
      simp [Instr.sameNow, bytes_beq]
    · cases h
  · split at h
    · cases h
      rw [hx.bool_inv, hy.bool_inv]
      simp [Instr.sameNow]
    · cases h
  · cases h

theorem sameNow_bits {d : TypeDesc} {u v : Value} (h : Instr.sameNow d u v = some true) : Instr.sameBits 10000 v u = true := by
  unfold Instr.sameNow at h
  split at h
  · split at h
    · rename_i hk
      subst hk
      simp only [Option.some.injEq, beq_iff_eq] at h
      subst h
      simp [Instr.sameBits]
    · cases h
  · rename_i a b
    obtain ⟨⟨x⟩⟩ := a
    obtain ⟨⟨y⟩⟩ := b
    simp only [Option.some.injEq, bytes_beq, beq_iff_eq] at h
    subst h
    simp [Instr.sameBits, bytes_beq]
  · simp only [Option.some.injEq, beq_iff_eq] at h
    subst h
    simp [Instr.sameBits]
  · cases h

inductive EntR (M : Mem) : List (Leaf × V × Nat) → List MapEntry → Prop
  | nil : EntR M [] []
  | cons {e : Leaf × V × Nat} {m : MapEntry} {es : List (Leaf × V × Nat)} {ms : List MapEntry} (hk : VR M e.1 m.key) (hv : VV M e.2.1 m.val) (hb : m.born = e.2.2) (h : EntR M es ms) : EntR M (e :: es) (m :: ms)

theorem entR_of {M : Mem} : ∀ {es : List (Leaf × V × Nat)} {ms : List MapEntry}, ms.length = es.length → (∀ i, i < es.length → VR M (es.getD i default).1 (ms.getD i default).key ∧ VV M (es.getD i default).2.1 (ms.getD i default).val ∧ (ms.getD i default).born = (es.getD i default).2.2) → EntR M es ms
  | [], [], _, _ => .nil
  | [], m :: ms, h, _ => by simp at h
  | e :: es, [], h, _ => by simp at h
  | e :: es, m :: ms, h, g => by
    have h0 := g 0 (by simp)
    refine .cons (by simpa using h0.1) (by simpa using h0.2.1) (by simpa using h0.2.2) (entR_of (by simpa using h) fun i hi => ?_)
    have := g (i + 1) (by simpa using hi)
    simpa using this

theorem EntR.len {M : Mem} {es : List (Leaf × V × Nat)} {ms : List MapEntry} (h : EntR M es ms) : ms.length = es.length := by
  induction h with
  | nil => rfl
  | cons _ _ _ _ ih => simp [ih]
theorem EntR.get {M : Mem} {es : List (Leaf × V × Nat)} {ms : List MapEntry} (h : EntR M es ms) : ∀ i, i < es.length → VR M (es.getD i default).1 (ms.getD i default).key ∧ VV M (es.getD i default).2.1 (ms.getD i default).val ∧ (ms.getD i default).born = (es.getD i default).2.2 := by
  induction h with
  | nil => intro i hi; simp at hi
  | cons hk hv hb _ ih =>
    intro i hi
    cases i with
    | zero => exact ⟨by simpa using hk, by simpa using hv, by simpa using hb⟩
    | succ i => have := ih i (by simpa using hi); simpa using this

theorem findE_sound {d : TypeDesc} {k : Leaf} {ku : Value} (hk : VR M k ku) : ∀ {es : List (Leaf × V × Nat)} {ms : List MapEntry} {r : Option V} (n : Nat), EntR M es ms → findE d k es = some r →
    (r = none ∧ Instr.findNow d ku ms n = some none) ∨ ∃ v i val, r = some v ∧ Instr.findNow d ku ms n = some (some (i, val)) ∧ VV M v val := by
  intro es ms r n h
  induction h generalizing n with
  | nil => intro e; simp only [findE, Option.some.injEq] at e; exact .inl ⟨e.symm, rfl⟩
  | cons hk1 hv hb h ih =>
    rename_i e m es ms
    intro e1
    unfold findE at e1
    split at e1
    · rename_i h1
      simp only [Option.some.injEq] at e1
      exact .inr ⟨_, n, m.val, e1.symm, by simp [Instr.findNow, keyEq_sound h1 hk hk1], hv⟩
    · rename_i h1
      rcases ih (n + 1) e1 with ⟨g1, g2⟩ | ⟨v, i, val, g1, g2, g3⟩
      · exact .inl ⟨g1, by simp [Instr.findNow, keyEq_sound h1 hk hk1, g2]⟩
      · exact .inr ⟨v, i, val, g1, by simp [Instr.findNow, keyEq_sound h1 hk hk1, g2], g3⟩
    · cases e1

theorem updE_sound {d : TypeDesc} {k : Leaf} {ku : Value} (hk : VR M k ku) {x : V} {xu : Value} (hx : VV M x xu) {ck : Nat} : ∀ {es : List (Leaf × V × Nat)} {r : List (Leaf × V × Nat) × Nat} {ms : List MapEntry} (n : Nat), EntR M es ms → updE d k x ck es = some r →
    (Instr.findNow d ku ms n = some none ∧ r.2 = ck + 1 ∧ EntR M r.1 (ms ++ [⟨ku, xu, ck⟩])) ∨ ∃ i m, ms[i]? = some m ∧ Instr.findNow d ku ms n = some (some (n + i, m.val)) ∧ Instr.sameNow d ku m.key = some true ∧ r.2 = ck ∧ EntR M r.1 (ms.set i { m with key := ku, val := xu }) := by
  intro es r ms n h
  induction h generalizing n r with
  | nil =>
    intro e
    simp only [updE, Option.some.injEq] at e
    subst e
    exact .inl ⟨rfl, rfl, .cons hk hx rfl .nil⟩
  | cons hk1 hv hb h ih =>
    rename_i e m es ms
    intro e1
    unfold updE at e1
    split at e1
    · rename_i h1
      simp only [Option.some.injEq] at e1
      subst e1
      have h2 := keyEq_sound h1 hk hk1
      exact .inr ⟨0, m, rfl, by simp [Instr.findNow, h2], h2, rfl, .cons hk hx hb h⟩
    · rename_i h1
      have h2 := keyEq_sound h1 hk hk1
      obtain ⟨r1, e2, rfl⟩ := Option.map_eq_some_iff.1 e1
      rcases ih (n + 1) e2 with ⟨g1, g2, g3⟩ | ⟨i, m', g1, g2, g3, g4, g5⟩
      · exact .inl ⟨by simp [Instr.findNow, h2, g1], g2, .cons hk1 hv hb g3⟩
      · refine .inr ⟨i + 1, m', by simpa using g1, ?_, g3, g4, .cons hk1 hv hb g5⟩
        simp only [Instr.findNow, h2, g2]
        congr 3
        omega
    · cases e1

theorem entE_sound {d : TypeDesc} {k : Leaf} {ku : Value} (hk : VR M k ku) {z : Option V} {zu : Value} (hz : ∀ x, z = some x → VV M x zu) {ck : Nat} : ∀ {es : List (Leaf × V × Nat)} {r : List (Leaf × V × Nat) × Nat × V × Nat} {ms : List MapEntry} (n : Nat), EntR M es ms → entE d k z ck es = some r →
    (Instr.findNow d ku ms n = some none ∧ (∃ x, z = some x) ∧ r.2.1 = ck + 1 ∧ VV M r.2.2.1 zu ∧ r.2.2.2 = ck ∧ EntR M r.1 (ms ++ [⟨ku, zu, ck⟩])) ∨
    ∃ i m, ms[i]? = some m ∧ Instr.findNow d ku ms n = some (some (n + i, m.val)) ∧ Instr.sameNow d ku m.key = some true ∧ r.2.1 = ck ∧ VV M r.2.2.1 m.val ∧ r.2.2.2 = m.born ∧ EntR M r.1 (ms.set i { m with key := ku }) := by
  intro es r ms n h
  induction h generalizing n r with
  | nil =>
    intro e
    unfold entE at e
    cases z with
    | none => cases e
    | some x =>
      simp only [Option.some.injEq] at e
      subst e
      exact .inl ⟨rfl, ⟨x, rfl⟩, rfl, hz x rfl, rfl, .cons hk (hz x rfl) rfl .nil⟩
  | cons hk1 hv hb h ih =>
    rename_i e m es ms
    intro e1
    unfold entE at e1
    split at e1
    · rename_i h1
      simp only [Option.some.injEq] at e1
      subst e1
      have h2 := keyEq_sound h1 hk hk1
      exact .inr ⟨0, m, rfl, by simp [Instr.findNow, h2], h2, rfl, hv, hb.symm, .cons hk hv hb h⟩
    · rename_i h1
      have h2 := keyEq_sound h1 hk hk1
      obtain ⟨r1, e2, rfl⟩ := Option.map_eq_some_iff.1 e1
      rcases ih (n + 1) e2 with ⟨g1, g0, g2, g3, g4, g5⟩ | ⟨i, m', g1, g2, g3, g4, g5, g6, g7⟩
      · exact .inl ⟨by simp [Instr.findNow, h2, g1], g0, g2, g3, g4, .cons hk1 hv hb g5⟩
      · refine .inr ⟨i + 1, m', by simpa using g1, ?_, g3, g4, g5, g6, .cons hk1 hv hb g7⟩
        simp only [Instr.findNow, h2, g2]
        congr 3
        omega
    · cases e1

theorem stoE_sound {b : Int} {x : V} {xu : Value} (hx : VV M x xu) : ∀ {es es' : List (Leaf × V × Nat)} {ms : List MapEntry}, EntR M es ms → stoE b x es = some es' →
    ∃ i m, ms[i]? = some m ∧ ms.findIdx? (fun e => (e.born : Int) == b) = some i ∧ EntR M es' (ms.set i { m with val := xu }) := by
  intro es es' ms h
  induction h generalizing es' with
  | nil => intro e; cases e
  | cons hk1 hv hb h ih =>
    rename_i e m es ms
    intro e1
    unfold stoE at e1
    rw [← hb] at e1
    split at e1
    · rename_i h1
      simp only [Option.some.injEq] at e1
      subst e1
      exact ⟨0, m, rfl, by simp [List.findIdx?_cons, h1], .cons hk1 hx rfl h⟩
    · rename_i h1
      obtain ⟨es1, e2, rfl⟩ := Option.map_eq_some_iff.1 e1
      obtain ⟨i, m', g1, g2, g3⟩ := ih e2
      have h1' : ((m.born : Int) == b) = false := by simpa using h1
      exact ⟨i + 1, m', by simpa using g1, by simp [List.findIdx?_cons, h1', g2], .cons hk1 hv hb g3⟩

theorem delE_sound {d : TypeDesc} {k : Leaf} {ku : Value} (hk : VR M k ku) : ∀ {es es' : List (Leaf × V × Nat)} {ms : List MapEntry} (n : Nat), EntR M es ms → delE d k es = some es' →
    (Instr.findNow d ku ms n = some none ∧ EntR M es' ms) ∨ ∃ i v, i < ms.length ∧ Instr.findNow d ku ms n = some (some (n + i, v)) ∧ EntR M es' (ms.eraseIdx i) := by
  intro es es' ms n h
  induction h generalizing n es' with
  | nil =>
    intro e
    simp only [delE, Option.some.injEq] at e
    subst e
    exact .inl ⟨rfl, .nil⟩
  | cons hk1 hv hb h ih =>
    rename_i e m es ms
    intro e1
    unfold delE at e1
    split at e1
    · rename_i h1
      simp only [Option.some.injEq] at e1
      subst e1
      have h2 := keyEq_sound h1 hk hk1
      exact .inr ⟨0, m.val, by simp, by simp [Instr.findNow, h2], h⟩
    · rename_i h1
      have h2 := keyEq_sound h1 hk hk1
      obtain ⟨es1, e2, rfl⟩ := Option.map_eq_some_iff.1 e1
      rcases ih (n + 1) e2 with ⟨g1, g2⟩ | ⟨i, v, g1, g2, g3⟩
      · exact .inl ⟨by simp [Instr.findNow, h2, g1], .cons hk1 hv hb g2⟩
      · refine .inr ⟨i + 1, v, by simpa using g1, ?_, .cons hk1 hv hb g3⟩
        simp only [Instr.findNow, h2, g2]
        congr 3
        omega
    · cases e1

theorem getD_toListM (ms : Array MapEntry) (i : Nat) : ms.toList.getD i default = ms.getD i default := by
  simp [List.getD, Array.getD_eq_getD_getElem?]

theorem Inv.entR (hI : Inv B M H w) {id : Nat} {es : List (Leaf × V × Nat)} {ck : Nat} (h : H[id]? = some (some (.mp ck es))) : ∃ r ms, M.mp id = some r ∧ B ≤ r ∧ w.heap[r]? = some (.map ms ck) ∧ EntR M es ms.toList := by
  obtain ⟨r, ms, g1, g2, g3, g4, g5⟩ := hI.mpr _ _ _ h
  exact ⟨r, ms, g1, g2, g3, entR_of (by simpa using g4) fun i hi => by rw [getD_toListM]; exact g5 i hi⟩

def entsB (g : Bool) : List Leaf → List (List Leaf) → List MapEntry → List (Leaf × V × Nat)
  | k :: ks, r :: rs, m :: ms => (k, entV g r, m.born) :: entsB g ks rs ms
  | _, _, _ => []
theorem findE_B (g : Bool) (d : TypeDesc) (k : Leaf) : ∀ (ks : List Leaf) (rs : List (List Leaf)) (ms : List MapEntry), ms.length = ks.length → rs.length = ks.length → findE d k (entsB g ks rs ms) = findE d k (entsOf g ks rs)
  | [], _, _, _, _ => by simp [entsB, entsOf]
  | a :: ks, [], _, _, h => by simp at h
  | a :: ks, r :: rs, [], h, _ => by simp at h
  | a :: ks, r :: rs, m :: ms, h, h' => by
    have ih := findE_B g d k ks rs ms (by simpa using h) (by simpa using h')
    simp only [entsB, entsOf, findE, ih]
theorem entV_sound {g : Bool} {cs : List Leaf} {v : Value} {a : Array Value} (h : ValIs g v a) (hn : a.size = cs.length) (hc : ∀ j, j < cs.length → PVR M.stab (cs.getD j .junk) (a.getD j undef)) : VV M (entV g cs) v := by
  cases g with
  | true =>
    obtain rfl : v = .agg a := h
    exact .agg ⟨by simpa using hn, fun j hj => by
      have := hc j hj
      rw [show a.toList.getD j undef = a.getD j undef by simp [List.getD, Array.getD_eq_getD_getElem?]]
      exact .pure this⟩
  | false =>
    obtain rfl : a = #[v] := h
    match cs, hn, hc with
    | [l], _, hc => exact .one (.pure (by simpa using hc 0 (by simp)))
theorem entR_B {g : Bool} : ∀ (ks : List Leaf) (rs : List (List Leaf)) (ms : List MapEntry) (arrs : Nat → Array Value), ms.length = ks.length → rs.length = ks.length →
    (∀ i, i < ks.length → ValIs g (ms.getD i default).val (arrs i) ∧ (arrs i).size = (rs.getD i []).length) → (∀ i, i < ks.length → PVR M.stab (ks.getD i .junk) (ms.getD i default).key) →
    (∀ i j, i < ks.length → j < (rs.getD i []).length → PVR M.stab ((rs.getD i []).getD j .junk) ((arrs i).getD j undef)) → EntR M (entsB g ks rs ms) ms
  | [], rs, ms, arrs, h1, _, _, _, _ => by
    have : ms = [] := List.eq_nil_of_length_eq_zero (by simpa using h1)
    subst this; cases rs <;> exact .nil
  | a :: ks, [], _, _, _, h, _, _, _ => by simp at h
  | a :: ks, r :: rs, [], _, h, _, _, _, _ => by simp at h
  | a :: ks, r :: rs, m :: ms, arrs, h1, h2, h3, h4, h5 => by
    have z3 := h3 0 (by simp)
    have z4 := h4 0 (by simp)
    have z5 := fun j => h5 0 j (by simp)
    simp at z3 z4 z5
    exact .cons (.pure z4) (entV_sound z3.1 z3.2 (fun j hj => by simpa using z5 j hj)) rfl
      (entR_B ks rs ms (fun i => arrs (i + 1)) (by simpa using h1) (by simpa using h2) (fun i hi => by simpa using h3 (i + 1) (by simpa using hi)) (fun i hi => by simpa using h4 (i + 1) (by simpa using hi))
        fun i j hi hj => by simpa using h5 (i + 1) j (by simpa using hi) (by simpa using hj))

theorem mapOf_sound (hI : Inv B M H w) {m : V} {mu : Value} {es : List (Leaf × V × Nat)} (h : mapOf H m = some es) (hm : VV M m mu) :
    (mu = .map none ∧ es = []) ∨ ∃ r ms ck es', mu = .map (some r) ∧ w.heap[r]? = some (.map ms ck) ∧ EntR M es' ms.toList ∧ ∀ d k, findE d k es' = findE d k es := by
  unfold mapOf at h
  split at h
  · cases h
    exact .inl ⟨hm.one_inv.nilm_inv, rfl⟩
  · cases h
    obtain ⟨r, ms, arrs, rfl, g1, g2, g3, g4, g5, g6⟩ := hm.one_inv.imap_inv
    obtain ⟨ck, k1⟩ := hI.mstab _ _ g1
    exact .inr ⟨r, ms, ck, entsB _ _ _ ms.toList, rfl, k1, entR_B _ _ _ arrs (by simpa using g2) g3 (fun i hi => by rw [getD_toListM]; exact g4 i hi) (fun i hi => by rw [getD_toListM]; exact g5 i hi) g6,
      fun d k => findE_B _ d k _ _ _ (by simpa using g2) g3⟩
  · split at h
    · rename_i id ck es' h1
      cases h
      obtain ⟨r, g1, g2⟩ := hm.one_inv.map_inv
      obtain ⟨r', ms, k1, _, k3, k4⟩ := hI.entR h1
      rw [g2] at k1; cases k1
      exact .inr ⟨r, ms, ck, _, g1, k3, k4, fun _ _ => rfl⟩
    · cases h
  · cases h

theorem tzeroV_sound {t : TypeId} {v : V} (h : tzeroV P t = some v) (w : World) : ∃ z, VV M v z ∧ (zeroValue t).run P w = .ok z w := by
  unfold tzeroV at h
  split at h
  · rename_i i hi
    split at h
    · rename_i z hz
      cases h
      exact ⟨z, ofConstV_V M z, run_zeroValue' hi hz w⟩
    · cases h
  · cases h

theorem VV.two {a b : V} {x y : Value} (h1 : VV M a x) (h2 : VV M b y) : VV M (.tup [a, b]) (.tuple #[x, y]) := by
  refine .tup rfl fun i hi => ?_
  match i, hi with
  | 0, _ => exact h1
  | 1, _ => exact h2

theorem run_lookupV (hI : Inv B M H w) {t : TypeId} {m k v : V} {ok : Bool} {mu ku : Value} (e : lookupV P H t m k ok = some v) (hm : VV M m mu) (hk : VV M k ku) :
    ∃ r, VV M v r ∧ (Instr.lookup t mu ku ok).run P w = .ok r w := by
  unfold lookupV at e
  obtain ⟨q, e1, e2⟩ := Option.bind_eq_some_iff.1 e
  obtain ⟨es, e3, e4⟩ := Option.bind_eq_some_iff.1 e2
  obtain ⟨kt, t1, t2⟩ := run_underlyingMap e1
  split at e4
  · rename_i lk
    split at e4
    · rename_i hik
      obtain ⟨r, e5, e6⟩ := Option.bind_eq_some_iff.1 e4
      have hkl := hk.one_inv
      have hIs := isKeyL_sound hik hkl
      have chk : ∀ em, (Instr.checkKey em 10000 kt ku).run P w = .ok () w := fun em => MapKept.run_checkKey t2 hIs em 9999
      have fin : ∀ (es' : List (Leaf × V × Nat)) (ms : List MapEntry), EntR M es' ms → (∀ d k, findE d k es' = findE d k es) → (∀ z, (Instr.findKey kt ku ms).run P w = .ok z w → True) → ∃ a : Option (Nat × Value), (Instr.findKey kt ku ms).run P w = .ok a w ∧
          ((r = none ∧ a = none) ∨ ∃ v i val, r = some v ∧ a = some (i, val) ∧ VV M v val) := by
        intro es' ms hms hfe _
        rcases findE_sound hkl 0 hms ((hfe _ _).trans e5) with ⟨g1, g2⟩ | ⟨v, i, val, g1, g2, g3⟩
        · exact ⟨none, MapKept.run_findKey t2 g2, .inl ⟨g1, rfl⟩⟩
        · exact ⟨some (i, val), MapKept.run_findKey t2 g2, .inr ⟨v, i, val, g1, rfl, g3⟩⟩
      have body : ∀ (a : Option (Nat × Value)), ((r = none ∧ a = none) ∨ ∃ v i val, r = some v ∧ a = some (i, val) ∧ VV M v val) →
          ∃ x b, VV M v (if ok then .tuple #[x, .bool b] else x) ∧ ((a = none ∧ b = false ∧ (zeroValue q.2).run P w = .ok x w) ∨ (b = true ∧ ∃ i, a = some (i, x))) := by
        intro a ha
        rcases ha with ⟨rfl, rfl⟩ | ⟨v', i, val, rfl, rfl, h3⟩
        · simp only at e6
          obtain ⟨z, e7, rfl⟩ := Option.map_eq_some_iff.1 e6
          obtain ⟨zu, h4, h5⟩ := tzeroV_sound (M := M) e7 w
          refine ⟨zu, false, ?_, .inl ⟨rfl, rfl, h5⟩⟩
          unfold foundV
          cases ok
          · exact h4
          · exact h4.two (.bool false)
        · simp only [Option.some.injEq] at e6
          subst e6
          refine ⟨val, true, ?_, .inr ⟨rfl, i, rfl⟩⟩
          unfold foundV
          cases ok
          · exact h3
          · exact h3.two (.bool true)
      rcases mapOf_sound hI e3 hm with ⟨rfl, rfl⟩ | ⟨b, ms, ck, es', rfl, hb, hms, hfe⟩
      · obtain ⟨a, f1, f2⟩ := fin [] [] .nil (fun _ _ => rfl) (fun _ _ => trivial)
        obtain ⟨x, b, g1, g2⟩ := body a f2
        refine ⟨_, g1, ?_⟩
        rcases g2 with ⟨rfl, rfl, g3⟩ | ⟨rfl, i, rfl⟩ <;> cases ok <;> first | simp [Instr.lookup, run_underlying t1, Result.andThen, chk, f1, g3] | simp [Instr.lookup, run_underlying t1, Result.andThen, chk, f1]
      · obtain ⟨a, f1, f2⟩ := fin es' ms.toList hms hfe (fun _ _ => trivial)
        obtain ⟨x, b, g1, g2⟩ := body a f2
        refine ⟨_, g1, ?_⟩
        have hg := MapKept.run_getObj_map (P := P) hb
        rcases g2 with ⟨rfl, rfl, g3⟩ | ⟨rfl, i, rfl⟩ <;> cases ok <;> first | simp [Instr.lookup, run_underlying t1, Result.andThen, hg, chk, f1, g3] | simp [Instr.lookup, run_underlying t1, Result.andThen, hg, chk, f1]
    · cases e4
  · cases e4

theorem Below.setM {B : Nat} {w : World} {r : Nat} {ms : Array MapEntry} {ck : Nat} {o : Obj} (h : B ≤ r) (hw : w.heap[r]? = some (.map ms ck)) : Below B w (setObjW w r o) :=
  ⟨⟨rfl, rfl, rfl, by simp [setObjW], fun k hk => by rw [setObjW_get hw, if_neg (by omega)]⟩, fun k o hk ho => by
    rw [setObjW_get hw]
    split
    · rename_i e; subst e; rw [hw] at hk; cases hk; simp [isMark] at ho
    · exact hk⟩

theorem run_mapUpdV (hI : Inv B M H w) {t : TypeId} {m k x v : V} {H' : Heap} {ws : List Nat} {mu ku xu : Value} (e : mapUpdV P H t m k x = some (v, H', ws)) (hm : VV M m mu) (hk : VV M k ku) (hx : VV M x xu) :
    v = .junk ∧ ∃ w', Inv B M H' w' ∧ Below B w w' ∧ (Instr.mapUpdate t mu ku xu).run P w = .ok () w' := by
  unfold mapUpdV at e
  obtain ⟨q, e1, e2⟩ := Option.bind_eq_some_iff.1 e
  obtain ⟨kt, t1, t2⟩ := run_underlyingMap e1
  split at e2
  · rename_i id
    split at e2
    · rename_i lk
      split at e2
      · rename_i hik
        split at e2
        · rename_i ck es hes
          obtain ⟨es', e3, e4⟩ := Option.map_eq_some_iff.1 e2
          cases e4
          obtain ⟨r, rfl, hr⟩ := hm.one_inv.map_inv
          obtain ⟨r', ms, k1, k2, k3, k4⟩ := hI.entR hes
          rw [hr] at k1; cases k1
          have hkl := hk.one_inv
          have hIs := isKeyL_sound hik hkl
          have chk : ∀ em, (Instr.checkKey em 10000 kt ku).run P w = .ok () w := fun em => MapKept.run_checkKey t2 hIs em 9999
          have hg := MapKept.run_getObj_map (P := P) k3
          have hset := fun o => MapKept.run_setObj_map (P := P) o k3
          refine ⟨rfl, ?_⟩
          obtain ⟨es', ck'⟩ := es'
          rcases updE_sound hkl hx 0 k4 e3 with ⟨g1, g5, g2⟩ | ⟨i, m, g1, g2, g3, g5, g4⟩ <;> (simp only at g5; replace g5 := g5.symm; subst g5)
          · have hf := MapKept.run_findKey (P := P) (w := w) t2 g1
            refine ⟨setObjW w r (.map (ms.push ⟨ku, xu, ck⟩) (ck + 1)), ?_, Below.setM k2 k3, ?_⟩
            · refine hI.setM hes hr k3 (by have := g2.len; simpa using this) fun i hi => ?_
              have := g2.get i hi
              rwa [← Array.toList_push, getD_toListM] at this
            · simp [Instr.mapUpdate, run_underlying t1, Result.andThen, hg, chk, hf, hset, setObjW]
          · have hf := MapKept.run_findKey (P := P) (w := w) t2 g2
            have hmi : ms[i]? = some m := by rw [← Array.getElem?_toList]; exact g1
            have hil : i < ms.size := (Array.getElem?_eq_some_iff.1 hmi).1
            have hst : (Instr.keyThatStays m.key ku).run P w = .ok ku w := by simp [Instr.keyThatStays, sameNow_bits g3]
            have hmod : (ms.modify i fun e => { e with key := ku, val := xu }).toList = ms.toList.set i { m with key := ku, val := xu } := by
              apply List.ext_getElem?
              intro j
              rw [Array.getElem?_toList, Array.getElem?_modify, List.getElem?_set]
              by_cases hij : i = j
              · subst hij; have hmb : ms[i] = m := (Array.getElem?_eq_some_iff.1 hmi).2; simp [hmi, hil, hmb]
              · simp [hij]
            refine ⟨setObjW w r (.map (ms.modify i fun e => { e with key := ku, val := xu }) ck), ?_, Below.setM k2 k3, ?_⟩
            · refine hI.setM hes hr k3 (by have := g4.len; rw [← hmod] at this; simpa using this) fun j hj => ?_
              have := g4.get j hj
              rwa [← hmod, getD_toListM] at this
            · simp [Instr.mapUpdate, run_underlying t1, Result.andThen, hg, chk, hf, hset, setObjW, hmi, hst]
        · cases e2
      · cases e2
    · cases e2
  · cases e2

theorem run_delV (hI : Inv B M H w) {t t' ty : TypeId} {m k v : V} {H' : Heap} {ws : List Nat} {mu ku : Value} (e : delV P H t m k = some (v, H', ws)) (hm : VV M m mu) (hk : VV M k ku) :
    v = .tup [] ∧ ∃ w', Inv B M H' w' ∧ Below B w w' ∧ (Builtin.delete_ #[t, t'] ty #[mu, ku]).run P w = .ok (.tuple #[]) w' := by
  unfold delV at e
  obtain ⟨q, e1, e2⟩ := Option.bind_eq_some_iff.1 e
  obtain ⟨kt, t1, t2⟩ := run_underlyingMap e1
  split at e2
  · rename_i id
    split at e2
    · rename_i lk
      split at e2
      · rename_i hik
        split at e2
        · rename_i ck es hes
          obtain ⟨es', e3, e4⟩ := Option.map_eq_some_iff.1 e2
          cases e4
          obtain ⟨r, rfl, hr⟩ := hm.one_inv.map_inv
          obtain ⟨r', ms, k1, k2, k3, k4⟩ := hI.entR hes
          rw [hr] at k1; cases k1
          have hkl := hk.one_inv
          have hIs := isKeyL_sound hik hkl
          have chk : ∀ em, (Instr.checkKey em 10000 kt ku).run P w = .ok () w := fun em => MapKept.run_checkKey t2 hIs em 9999
          have hg := MapKept.run_getObj_map (P := P) k3
          have hset := fun o => MapKept.run_setObj_map (P := P) o k3
          refine ⟨rfl, ?_⟩
          rcases delE_sound hkl 0 k4 e3 with ⟨g1, g2⟩ | ⟨i, v, g0, g1, g2⟩
          · have hf := MapKept.run_findKey (P := P) (w := w) t2 g1
            refine ⟨setObjW w r (.map ms ck), ?_, Below.setM k2 k3, ?_⟩
            · refine hI.setM hes hr k3 (by have := g2.len; simpa using this) fun i hi => ?_
              have := g2.get i hi
              rwa [getD_toListM] at this
            · simp [Builtin.delete_, run_underlying t1, Result.andThen, hg, chk, hf, hset, setObjW]
          · have hf := MapKept.run_findKey (P := P) (w := w) t2 g1
            have her : (ms.eraseIdxIfInBounds i).toList = ms.toList.eraseIdx i := by simp
            refine ⟨setObjW w r (.map (ms.eraseIdxIfInBounds i) ck), ?_, Below.setM k2 k3, ?_⟩
            · refine hI.setM hes hr k3 (by have := g2.len; rw [← her] at this; simpa only [Array.length_toList] using this) fun j hj => ?_
              have := g2.get j hj
              rwa [← her, getD_toListM] at this
            · simp [Builtin.delete_, run_underlying t1, Result.andThen, hg, chk, hf, hset, setObjW]
        · cases e2
      · cases e2
    · cases e2
  · cases e2

theorem run_mapEntV (hI : Inv B M H w) {t : TypeId} {m k v : V} {H' : Heap} {ws : List Nat} {mu ku : Value} (e : mapEntV P H t m k = some (v, H', ws)) (hm : VV M m mu) (hk : VV M k ku) :
    ∃ u w', VV M v u ∧ Inv B M H' w' ∧ Below B w w' ∧ (Instr.mapEntry t mu ku).run P w = .ok u w' := by
  unfold mapEntV at e
  obtain ⟨q, e1, e2⟩ := Option.bind_eq_some_iff.1 e
  obtain ⟨kt, t1, t2⟩ := run_underlyingMap e1
  split at e2
  · rename_i id
    split at e2
    · rename_i lk
      split at e2
      · rename_i hik
        split at e2
        · rename_i ck es hes
          obtain ⟨r0, e3, e4⟩ := Option.map_eq_some_iff.1 e2
          cases e4
          obtain ⟨r, rfl, hr⟩ := hm.one_inv.map_inv
          obtain ⟨r', ms, k1, k2, k3, k4⟩ := hI.entR hes
          rw [hr] at k1; cases k1
          have hkl := hk.one_inv
          have hIs := isKeyL_sound hik hkl
          have chk : ∀ em, (Instr.checkKey em 10000 kt ku).run P w = .ok () w := fun em => MapKept.run_checkKey t2 hIs em 9999
          have hg := MapKept.run_getObj_map (P := P) k3
          have hset := fun o => MapKept.run_setObj_map (P := P) o k3
          obtain ⟨zu, hz⟩ : ∃ zu, ∀ x, tzeroV P q.2 = some x → VV M x zu ∧ (zeroValue q.2).run P w = .ok zu w := by
            cases hz : tzeroV P q.2 with
            | none => exact ⟨undef, fun x hx => by cases hx⟩
            | some x =>
              obtain ⟨z, h1, h2⟩ := tzeroV_sound (M := M) hz w
              exact ⟨z, fun y hy => by cases hy; exact ⟨h1, h2⟩⟩
          obtain ⟨es', ck', v', b'⟩ := r0
          rcases entE_sound hkl (fun x hx => (hz x hx).1) 0 k4 e3 with ⟨g1, ⟨x0, g0⟩, g2, g3, g4, g5⟩ | ⟨i, m, g1, g2, g3, g4, g5, g6, g7⟩
          · have hf := MapKept.run_findKey (P := P) (w := w) t2 g1
            have hzr := (hz x0 g0).2
            simp only at g2 g3 g4 g5
            replace g2 := g2.symm
            replace g4 := g4.symm
            subst g2 g4
            refine ⟨.tuple #[zu, goInt ck], setObjW w r (.map (ms.push ⟨ku, zu, ck⟩) (ck + 1)), g3.two (.int _ _), ?_, Below.setM k2 k3, ?_⟩
            · refine hI.setM hes hr k3 (by have := g5.len; simpa using this) fun i hi => ?_
              have := g5.get i hi
              rwa [← Array.toList_push, getD_toListM] at this
            · simp [Instr.mapEntry, run_underlying t1, Result.andThen, hg, chk, hf, hset, hzr, setObjW]
          · have hf := MapKept.run_findKey (P := P) (w := w) t2 g2
            simp only at g4 g5 g6 g7
            replace g4 := g4.symm
            replace g6 := g6.symm
            subst g4 g6
            have hmi : ms[i]? = some m := by rw [← Array.getElem?_toList]; exact g1
            have hil : i < ms.size := (Array.getElem?_eq_some_iff.1 hmi).1
            have hmb : ms[i] = m := (Array.getElem?_eq_some_iff.1 hmi).2
            have hst : (Instr.keyThatStays m.key ku).run P w = .ok ku w := by simp [Instr.keyThatStays, sameNow_bits g3]
            have hmod : (ms.modify i fun e => { e with key := ku }).toList = ms.toList.set i { m with key := ku } := by
              apply List.ext_getElem?
              intro j
              rw [Array.getElem?_toList, Array.getElem?_modify, List.getElem?_set]
              by_cases hij : i = j
              · subst hij; simp [hmi, hil, hmb]
              · simp [hij]
            refine ⟨.tuple #[m.val, goInt m.born], setObjW w r (.map (ms.modify i fun e => { e with key := ku }) ck), g5.two (.int _ _), ?_, Below.setM k2 k3, ?_⟩
            · refine hI.setM hes hr k3 (by have := g7.len; rw [← hmod] at this; simpa using this) fun j hj => ?_
              have := g7.get j hj
              rwa [← hmod, getD_toListM] at this
            · simp [Instr.mapEntry, run_underlying t1, Result.andThen, hg, chk, hf, hset, setObjW, hmi, hst]
        · cases e2
      · cases e2
    · cases e2
  · cases e2

theorem run_entStoV (hI : Inv B M H w) {t : TypeId} {m b x v : V} {H' : Heap} {ws : List Nat} {mu bu xu : Value} (e : entStoV H m b x = some (v, H', ws)) (hm : VV M m mu) (hb : VV M b bu) (hx : VV M x xu) :
    v = .junk ∧ ∃ w', Inv B M H' w' ∧ Below B w w' ∧ (Instr.entryStore t mu bu xu).run P w = .ok () w' := by
  unfold entStoV at e
  split at e
  · rename_i id
    split at e
    · rename_i n
      split at e
      · rename_i ck es hes
        obtain ⟨es', e3, e4⟩ := Option.map_eq_some_iff.1 e
        cases e4
        obtain ⟨r, rfl, hr⟩ := hm.one_inv.map_inv
        obtain ⟨r', ms, k1, k2, k3, k4⟩ := hI.entR hes
        rw [hr] at k1; cases k1
        have hbn := hb.one_inv.int_inv
        subst hbn
        have hg := MapKept.run_getObj_map (P := P) k3
        have hset := fun o => MapKept.run_setObj_map (P := P) o k3
        obtain ⟨i, m, g1, g2, g3⟩ := stoE_sound hx k4 e3
        have hmi : ms[i]? = some m := by rw [← Array.getElem?_toList]; exact g1
        have hil : i < ms.size := (Array.getElem?_eq_some_iff.1 hmi).1
        have hmb : ms[i] = m := (Array.getElem?_eq_some_iff.1 hmi).2
        have hfi : ms.findIdx? (fun e => (e.born : Int) == n) = some i := by first | exact g2 | (rw [← Array.findIdx?_toList]; exact g2) | simpa using g2 | (cases ms; simpa using g2)
        have hmod : (ms.modify i fun e => { e with val := xu }).toList = ms.toList.set i { m with val := xu } := by
          apply List.ext_getElem?
          intro j
          rw [Array.getElem?_toList, Array.getElem?_modify, List.getElem?_set]
          by_cases hij : i = j
          · subst hij; simp [hmi, hil, hmb]
          · simp [hij]
        refine ⟨rfl, setObjW w r (.map (ms.modify i fun e => { e with val := xu }) ck), ?_, Below.setM k2 k3, ?_⟩
        · refine hI.setM hes hr k3 (by have := g3.len; rw [← hmod] at this; simpa using this) fun j hj => ?_
          have := g3.get j hj
          rwa [← hmod, getD_toListM] at this
        · simp [Instr.entryStore, Result.andThen, hg, hset, setObjW, asInt, asIntOf, hfi]
      · cases e
    · cases e
  · cases e
end
end Go.Proofs.YtkbdhjfjbkmkcaaGreat.Abs
