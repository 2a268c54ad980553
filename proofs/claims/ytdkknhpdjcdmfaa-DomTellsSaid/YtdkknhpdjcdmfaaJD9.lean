/- The abstract machine: copy, make, literals of slices; lengths; bytes as a string. -/
import Derived.Test.YtdkknhpdjcdmfaaJD8
set_option linter.unusedSimpArgs false
set_option linter.unusedVariables false
namespace Go.Proofs.Ytdkknhpdjcdmfaa.Abs
open Go Go.RowKit

section
variable {P : Program} {B : Nat} {M : Mem} {H : Heap} {w : World}

theorem getD_replicate {α : Type} (n i : Nat) (x d : α) (h : i < n) : (List.replicate n x).getD i d = x := by
  simp [List.getD, List.getElem?_replicate, h]

theorem flatten_getD (z : List Leaf) : ∀ (n i j : Nat), i < n → j < z.length → ((List.replicate n z).flatten).getD (i * z.length + j) .junk = z.getD j .junk
  | 0, i, j, hi, hj => by omega
  | n + 1, i, j, hi, hj => by
    rw [List.replicate_succ, List.flatten_cons]
    simp only [List.getD]
    rcases Nat.eq_zero_or_pos i with h0 | h0
    · subst h0
      rw [List.getElem?_append_left (by omega), Nat.zero_mul, Nat.zero_add]
    · have h1 : z.length ≤ i * z.length := Nat.le_mul_of_pos_left _ h0
      rw [List.getElem?_append_right (by omega)]
      have := flatten_getD z n (i - 1) j (by omega) hj
      simp only [List.getD] at this
      rw [← this]
      congr 2
      rw [Nat.sub_mul, Nat.one_mul]; omega

theorem flatten_length (z : List Leaf) (n : Nat) : ((List.replicate n z).flatten).length = n * z.length := by simp

theorem made_R {size len : Nat} {z : List Leaf} {zv : Value} (hz : zv.cells.size = size) (hzl : z.length = size) (hR : CsR M z zv.cells.toList) (h0 : 0 < size) (c : Nat) (hc : len ≤ c) :
    (madeCells zv.cells (c * size)).size = c * size ∧ ∀ i j, i < len → j < size → VR M (z.getD j .junk) ((madeCells zv.cells (c * size)).getD (i * size + j) undef) := by
  refine ⟨by simp [madeCells], fun i j hi hj => ?_⟩
  rw [madeCells_getD _ _ _ (idx_lt (by omega) hj) (by omega), hz]
  have : (i * size + j) % size = j := by rw [Nat.mul_comm, Nat.mul_add_mod, Nat.mod_eq_of_lt hj]
  rw [this, ← getD_toList]
  exact hR.2 j (by omega)

theorem run_makeSliceV (hI : Inv B M H w) {slot : Option Nat} {t : TypeId} {l c v : V} {H' : Heap} {ws : List Nat} (e : makeSliceV P slot H t l c = some (v, H', ws)) {ul uc : Value} (hl : VV M l ul) (hc : VV M c uc) :
    Left B M H' v w ((Instr.makeSlice t ul uc).run P w) := by
  unfold makeSliceV at e
  obtain ⟨el, e1, q1⟩ := Option.bind_eq_some_iff.1 e
  obtain ⟨i, hi, q2⟩ := Option.bind_eq_some_iff.1 q1
  obtain ⟨z, e3, q3⟩ := Option.bind_eq_some_iff.1 q2
  obtain ⟨ln, e4, q4⟩ := Option.bind_eq_some_iff.1 q3
  obtain ⟨cn, e5, q5⟩ := Option.bind_eq_some_iff.1 q4
  obtain ⟨i', zv, hi', hz, hzs, hzl, hzR⟩ := tzero_some e3
  rw [hi] at hi'; cases hi'
  split at q5
  · rename_i hg
    obtain ⟨kl, rfl⟩ := natOf_inv hl e4
    obtain ⟨kc, rfl⟩ := natOf_inv hc e5
    have hr := run_make (P := P) w t el i zv (telem_some e1) hi hz kl kc ln cn (by omega) (by omega) (by rw [← Int.natCast_mul]; omega) (by omega)
    simp only [Int.toNat_natCast] at hr
    obtain ⟨m1, m2⟩ := made_R hzs hzl (hzR M) hg.2.2.2 cn hg.1
    obtain ⟨id, M', rfl, hx, hI', hh⟩ := alloc_sound (cap := cn) hI q5 (arr := madeCells zv.cells (cn * i.size)) el m1 (by simpa using hg.1)
      (fun k hk => by rw [List.length_replicate] at hk; rw [getD_replicate _ _ _ _ hk, hzl]) (fun k j hk hj => by rw [List.length_replicate] at hk; rw [getD_replicate _ _ _ _ hk]; exact m2 k j hk hj)
    rw [List.length_replicate] at hh
    refine ⟨M', _, _, hx, hI', ?_, (Below.refl B w).alloc hI.base _, hr⟩
    exact .one (VR.sl id ln 0 ln cn ⟨w.heap.size, 0, none⟩ _ hh rfl rfl (.inr (by simp)) (by simp) (by simpa using hg.1) (by simp) hg.1)
  · cases q5

theorem chunk_length (size : Nat) : ∀ (n : Nat) (cs : List Leaf), (chunk size n cs).length = n
  | 0, _ => rfl
  | n + 1, cs => by simp [chunk, chunk_length size n]

theorem chunk_getD (size : Nat) : ∀ (n : Nat) (cs : List Leaf) (i : Nat), i < n → (chunk size n cs).getD i [] = (cs.drop (i * size)).take size
  | 0, _, i, hi => by omega
  | n + 1, cs, 0, _ => by simp [chunk]
  | n + 1, cs, i + 1, hi => by
    have := chunk_getD size n (cs.drop size) i (by omega)
    simp only [chunk, List.getD, List.getElem?_cons_succ] at this ⊢
    rw [this, List.drop_drop]
    congr 2
    rw [Nat.add_mul, Nat.one_mul, Nat.add_comm]

theorem run_buildSliceV (hI : Inv B M H w) {slot : Option Nat} {t : TypeId} {len : Nat} {parts : List (Nat × V)} {v : V} {H' : Heap} {ws : List Nat} (e : buildSliceV P slot H t len parts = some (v, H', ws))
    {parts' : Array (Nat × Value)} (hl : parts'.toList.length = parts.length) (hp : ∀ (i : Nat) (p : Nat × V), parts[i]? = some p → ∃ p' : Nat × Value, parts'.toList[i]? = some p' ∧ p'.1 = p.1 ∧ VV M p.2 p'.2) :
    Left B M H' v w ((Instr.buildSlice t len parts').run P w) := by
  unfold buildSliceV at e
  obtain ⟨el, e1, q1⟩ := Option.bind_eq_some_iff.1 e
  obtain ⟨i, hi, q2⟩ := Option.bind_eq_some_iff.1 q1
  obtain ⟨z, e3, q3⟩ := Option.bind_eq_some_iff.1 q2
  obtain ⟨i', zv, hi', hz, hzs, hzl, hzR⟩ := tzero_some e3
  rw [hi] at hi'; cases hi'
  split at q3
  · cases q3
  · rename_i hg
    have hs0 : 0 < i.size := by omega
    obtain ⟨cs, e4, q4⟩ := Option.bind_eq_some_iff.1 q3
    have hsz := run_sizeOf' (P := P) (t := el) (n := i.size) (by simp [tsize, hi]) w
    obtain ⟨m1, m2⟩ := made_R (len := len) hzs hzl (hzR M) hs0 len (Nat.le_refl _)
    have hzero : CsR M ((List.replicate len z).flatten) (madeCells zv.cells (len * i.size)).toList := by
      refine ⟨by rw [flatten_length, hzl]; simpa using m1, fun k hk => ?_⟩
      rw [flatten_length, hzl] at hk
      have hd : k / i.size < len := by rw [Nat.div_lt_iff_lt_mul hs0]; exact hk
      have hm := Nat.mod_lt k hs0
      have := m2 (k / i.size) (k % i.size) hd hm
      have h2 := flatten_getD z len (k / i.size) (k % i.size) hd (by omega)
      rw [hzl, Nat.div_add_mod'] at h2
      rw [Nat.div_add_mod'] at this
      rw [h2, getD_toList]; exact this
    obtain ⟨arr', g1, g2⟩ := run_fill (M := M) (fun k => some (k * i.size, i.size)) parts parts'.toList _ cs (madeCells zv.cells (len * i.size)) hl hp hzero e4
    have hlen : ∀ (place : Nat → Option (Nat × Nat)) (ps : List (Nat × V)) (a r : List Leaf), fillAt place a ps = some r → r.length = a.length := by
      intro place ps
      induction ps with
      | nil => intro a r h; cases h; rfl
      | cons p ps ih =>
        intro a r h
        obtain ⟨k, x⟩ := p
        unfold fillAt at h
        split at h
        · cases h
        · split at h
          · cases h
          · cases h
          · split at h
            · cases h
            · rename_i hgg
              rw [ih _ _ h, putCells_length (by omega)]
    have hcl : cs.length = len * i.size := by rw [hlen _ _ _ _ e4, flatten_length, hzl]
    have hal : arr'.size = len * i.size := by have := g2.1; simp only [Array.length_toList] at this; omega
    have hel : ∀ k, k < len → ((chunk i.size len cs).getD k []).length = i.size := by
      intro k hk
      rw [chunk_getD _ _ _ _ hk, List.length_take, List.length_drop, hcl]
      have := idx_lt hk (show i.size - 1 < i.size by omega)
      omega
    obtain ⟨id, M', rfl, hx, hI', hh⟩ := alloc_sound (cap := len) hI q4 (arr := arr') el hal (by rw [chunk_length]; exact Nat.le_refl _)
      (fun k hk => by rw [chunk_length] at hk; exact hel k hk)
      (fun k j hk hj => by
        rw [chunk_length] at hk
        have hlt := idx_lt hk hj
        have : ((chunk i.size len cs).getD k []).getD j .junk = cs.getD (k * i.size + j) .junk := by
          rw [chunk_getD _ _ _ _ hk]
          simp [List.getD, List.getElem?_take, hj]
        rw [this, ← getD_toList]
        exact g2.2 _ (by omega))
    rw [chunk_length] at hh
    refine ⟨M', _, .slice (some ⟨w.heap.size, 0, none⟩) len len, hx, hI', ?_, (Below.refl B w).alloc hI.base _, ?_⟩
    · exact .one (VR.sl id len 0 len len ⟨w.heap.size, 0, none⟩ _ hh rfl rfl (.inr (by simp)) (by simp) (by simp) (by simp) (Nat.le_refl _))
    · have hmade : (Array.range (len * i.size)).map (zv.cells[· % zv.cells.size]!) = madeCells zv.cells (len * i.size) := rfl
      have hng : ¬ len * i.size > 16777216 := fun h => hg (.inl h)
      by_cases hz0 : len * i.size = 0
      · have : madeCells zv.cells (len * i.size) = #[] := by rw [hz0]; simp [madeCells, Array.range_zero']
        rw [this] at g1
        simp [Instr.buildSlice, run_underlying (telem_some e1), hsz, hz0, Array.range_zero', g1, newRow]
      · simp only [Instr.buildSlice, Sem.run_bind, run_underlying (telem_some e1), Result.andThen_ok, hsz]
        rw [if_neg hng]
        simp only [hz0, if_false, Sem.run_bind, Sem.run_pure, run_zeroValue' hi hz, Result.andThen_ok, hmade, g1]
        simp [newRow]

theorem run_copyV (hI : Inv B M H w) {t tx ty : TypeId} {d x v : V} {H' : Heap} {ws : List Nat} (e : copyV P H t tx d x = some (v, H', ws)) {ud ux : Value} (hd : VV M d ud) (hx : VV M x ux) :
    Left B M H' v w ((Builtin.copy_ #[t, tx] ty #[ud, ux]).run P w) := by
  unfold copyV at e
  obtain ⟨el, e1, q1⟩ := Option.bind_eq_some_iff.1 e
  clear e
  obtain ⟨i, hi, q2⟩ := Option.bind_eq_some_iff.1 q1
  clear q1
  obtain ⟨xs, e4, q3⟩ := Option.bind_eq_some_iff.1 q2
  clear q2
  have ht := telem_some e1
  split at q3
  · cases q3
  · rename_i hg
    have htx : t = tx := by by_cases h : t = tx; exact h; exact (hg h).elim
    subst htx
    obtain ⟨bx, cx, news, rfl, hbn, hE, hnews⟩ := srcOf_sound hI e4 hx
    cases d with
    | junk => simp at q3
    | agg _ => simp at q3
    | tup _ => simp at q3
    | one l =>
      cases l
      case sl id esz sz off len =>
        dsimp only at q3
        obtain ⟨r, e5, q4⟩ := Option.bind_eq_some_iff.1 q3
        clear q3
        obtain ⟨h1, h2⟩ := rowAt_some e5
        split at q4
        · cases q4
        · rename_i hq
          have hq4 : 0 < sz := by by_cases h : sz = 0; exact (hq (.inr (.inr (.inr h)))).elim; omega
          obtain ⟨cap, sa, hb, rfl, k1, k2, k3, k4, k5, k6, k7, k8, k9⟩ := hd.one_inv.sl_at (.inl hq4)
          obtain ⟨c, cp, arr, tt, g1, g2, g3, g4, g5, g6, g7, g8⟩ := hI.rowOf h1 k1
          have hk1 := k1
          rw [h2, k1] at g1; cases g1
          simp only at k2 k3 k5 k8
          have hq1 : r.1 = esz := by by_cases h : r.1 = esz; exact h; exact (hq (.inl h)).elim
          have hq2 : esz = i.size := by by_cases h : esz = i.size; exact h; exact (hq (.inr (.inl h))).elim
          have hq3 : off + len ≤ sz := by by_cases h : sz < off + len; exact (hq (.inr (.inr (.inl h)))).elim; omega
          cases q4
          obtain ⟨sblk, soff, ssp⟩ := sa
          simp only at k3 k4 k5
          have k3' := k3.symm; subst k3'; subst k4
          have hr1 : r.1 = i.size := by omega
          have hesz : esz = i.size := hq2
          subst hesz
          rw [hr1] at g5 g7 g8 hk1 h1
          generalize hn : Nat.min xs.length len = n
          have hn1 : n ≤ xs.length := by rw [← hn]; exact Nat.min_le_left _ _
          have hn2 : n ≤ len := by rw [← hn]; exact Nat.min_le_right _ _
          have hnn : (news.take (n * i.size)).length = n * i.size := by
            have : n * i.size ≤ xs.length * i.size := Nat.mul_le_mul_right _ hn1
            rw [List.length_take, hE.1]; omega
          have hcells : (Builtin.firstCells i.size n (.slice bx xs.length cx)).run P w = .ok (news.take (n * i.size)).toArray w := by
            cases bx with
            | none =>
              have hx0 : xs = [] := hbn rfl
              have : n = 0 := by rw [hx0] at hn1; simpa using hn1
              subst this
              simp [run_firstCells_none]
            | some a =>
              exact run_firstCells_some w i.size n a _ _ _ hnn (fun j u hj => by
                have hjl := (List.getElem?_eq_some_iff.1 hj).1
                rw [hnn] at hjl
                rw [List.getElem?_take, if_pos hjl] at hj
                exact hnews a rfl j u hj)
          have hone : ∀ u ∈ news.take (n * i.size), u.oneCell' = true := fun u hu => hE.one u (List.mem_of_mem_take hu)
          have hfit : off * i.size + (news.take (n * i.size)).length ≤ arr.size := by
            rw [hnn, g5, ← Nat.add_mul]; exact Nat.mul_le_mul_right _ (by omega)
          have hst : ∃ w', (storeCells ⟨c, soff, none⟩ (news.take (n * i.size))).run P w = .ok () w' ∧ w' = w.setRow c (arr.toList.take (off * i.size) ++ news.take (n * i.size) ++ arr.toList.drop (off * i.size + (news.take (n * i.size)).length)).toArray := by
            rcases Nat.eq_zero_or_pos n with h0 | h0
            · have hnil : news.take (n * i.size) = [] := by rw [h0]; simp
              rw [hnil]
              refine ⟨w, by simp [storeCells], ?_⟩
              have := setRow_self w c arr tt (0, 0) g3
              simp only [List.append_nil, List.length_nil, Nat.add_zero, List.take_append_drop, Array.toArray_toList]
              exact this.symm
            · have hc0 : soff = off * i.size := by
                rcases k5 with h | h <;> omega
              subst hc0
              have := run_storeCells_at P c (off * i.size) tt (news.take (n * i.size)) 0 arr w g3 (by simpa using hfit) hone
              simp only [Nat.add_zero] at this
              exact ⟨_, this, rfl⟩
          obtain ⟨w', hst, hw'⟩ := hst
          have hxn : (xs.take n).length = n := by simp; omega
          have hsl := splice_length r.2 (xs.take n) off (by rw [hxn]; omega)
          rw [hxn] at hsl
          have hq := hI.setRow (id := id) (elems' := r.2.take off ++ xs.take n ++ r.2.drop (off + n)) (arr' := (arr.toList.take (off * i.size) ++ news.take (n * i.size) ++ arr.toList.drop (off * i.size + (news.take (n * i.size)).length)).toArray) h1 (by rw [h2]; exact hk1) g3
            (by have := splice_length arr.toList (news.take (n * i.size)) (off * i.size) (by simpa using hfit); simpa using this) (by rw [hsl]; exact Nat.le_refl _) (by rw [hsl]; omega)
            (fun p hp => by
              rw [hsl] at hp
              have := splice_getD r.2 (xs.take n) off p [] (by rw [hxn]; omega)
              rw [hxn] at this
              rw [this]
              split
              · rename_i hin
                have : (xs.take n).getD (p - off) [] = xs.getD (p - off) [] := by simp only [List.getD]; rw [List.getElem?_take, if_pos (by omega)]
                rw [this]; exact hE.2.1 _ (by omega)
              · exact g7 p hp)
            (fun p q hp hq => by
              rw [hsl] at hp
              have e1 := splice_getD r.2 (xs.take n) off p [] (by rw [hxn]; omega)
              rw [hxn] at e1
              rw [e1, ← getD_toList, show ((arr.toList.take (off * i.size) ++ news.take (n * i.size) ++ arr.toList.drop (off * i.size + (news.take (n * i.size)).length)).toArray).toList = arr.toList.take (off * i.size) ++ news.take (n * i.size) ++ arr.toList.drop (off * i.size + (news.take (n * i.size)).length) from rfl,
                splice_getD arr.toList (news.take (n * i.size)) (off * i.size) (p * i.size + q) undef (by simpa using hfit), hnn]
              by_cases hin : off ≤ p ∧ p < off + n
              · have hA : off * i.size ≤ p * i.size := Nat.mul_le_mul_right _ hin.1
                have hB := idx_lt hin.2 hq
                rw [Nat.add_mul] at hB
                rw [if_pos hin, if_pos (by omega), idx_sub hin.1]
                have h5 : (xs.take n).getD (p - off) [] = xs.getD (p - off) [] := by simp only [List.getD]; rw [List.getElem?_take, if_pos (by omega)]
                have hlt := idx_lt (show p - off < n by omega) hq
                have h6 : (news.take (n * i.size)).getD ((p - off) * i.size + q) undef = news.getD ((p - off) * i.size + q) undef := by simp only [List.getD]; rw [List.getElem?_take, if_pos hlt]
                rw [h5, h6]
                exact hE.2.2 _ q (by omega) hq
              · rw [if_neg hin, if_neg, getD_toList]
                · exact g8 p q hp hq
                · rintro ⟨q1, q2⟩
                  rcases Nat.lt_or_ge p off with hlt | hge
                  · have := idx_lt hlt hq; omega
                  · have hC : (off + n) * i.size ≤ p * i.size := Nat.mul_le_mul_right _ (by omega)
                    rw [Nat.add_mul] at hC
                    omega)
          rw [← hw'] at hq
          refine ⟨_, w', .int .i64 n, hq.1, hq.2, .int _ _, by rw [hw']; exact Below.setRow' g2, ?_⟩
          have hsz := run_sizeOf' (P := P) (t := el) (n := i.size) (by simp [tsize, hi]) w
          simp [Builtin.copy_, run_underlying ht, Builtin.lenOf, hn, hsz, hcells, hst, goInt]
      all_goals (exact absurd q3 (by simp))

theorem run_lenL (hI : Inv B M H w) {l : Leaf} {n : Nat} {u : Value} {t ty : TypeId} (e : lenL H l = some n) (hu : VR M l u)
    (ht : lenOK P t l = true) :
    (Builtin.len_ #[t] ty #[u]).run P w = .ok (.int .i64 n) w := by
  unfold lenOK at ht
  split at ht
  · rename_i h; cases e; rw [hu.str_inv]; simp [Builtin.len_, run_underlying h, goInt]; rfl
  · rename_i h; cases e; rw [hu.nils_inv]; simp [Builtin.len_, run_underlying h, goInt]
  · rename_i h; cases e; rcases hu.zsl_inv with rfl | ⟨_, rfl⟩ <;> simp [Builtin.len_, run_underlying h, goInt]
  · rename_i h; cases e; rcases hu.isl_inv with ⟨rfl, _, rfl⟩ | ⟨_, _, _, _, rfl, _⟩ <;> simp [Builtin.len_, run_underlying h, goInt]
  · rename_i h; cases e; rcases hu.sl_inv with ⟨_, _, rfl, rfl, _⟩ | ⟨_, _, _, rfl, _⟩ <;> simp [Builtin.len_, run_underlying h, goInt]
  · rename_i h
    obtain ⟨r, rfl, hr⟩ := hu.map_inv
    simp only [lenL] at e
    split at e
    · rename_i es hes
      cases e
      obtain ⟨r', ms, ck, g1, g2, g3, g4, g5⟩ := hI.mpr _ _ hes
      rw [hr] at g1; cases g1
      have : (getObj r).run P w = .ok (.map ms ck) w := by simp [getObj, Sem.run, g3]
      simp [Builtin.len_, run_underlying h, goInt, this, g4]
    · cases e
  · rename_i h; cases e; rw [hu.nilm_inv]; simp [Builtin.len_, run_underlying h, goInt]
  · cases ht
end
end Go.Proofs.Ytdkknhpdjcdmfaa.Abs
