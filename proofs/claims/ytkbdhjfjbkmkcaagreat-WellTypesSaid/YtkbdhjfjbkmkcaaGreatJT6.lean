/- The abstract machine: struct and slice literals, conversions, function values, lengths. -/
import Derived.Test.YtkbdhjfjbkmkcaaGreatJT5
import Derived.Laws.MakeOwn
set_option linter.unusedSimpArgs false
set_option linter.unusedVariables false
namespace Go.Proofs.YtkbdhjfjbkmkcaaGreat.Abs
open Go Go.RowKit

section
variable {P : Program} {B : Nat} {M : Mem} {H : Heap} {w : World}

theorem splice_getD {α : Type} (l vs : List α) (k m : Nat) (d : α) (h : k + vs.length ≤ l.length) :
    (l.take k ++ vs ++ l.drop (k + vs.length)).getD m d = if k ≤ m ∧ m < k + vs.length then vs.getD (m - k) d else l.getD m d := by
  simp only [List.getD]
  congr 1
  by_cases h1 : m < k
  · rw [if_neg (by omega), List.append_assoc, List.getElem?_append_left (by simp; omega), List.getElem?_take, if_pos h1]
  · by_cases h2 : m < k + vs.length
    · rw [if_pos ⟨by omega, h2⟩, List.getElem?_append_left (by simp; omega), List.getElem?_append_right (by simp; omega)]
      have : (l.take k).length = k := by simp; omega
      rw [this]
    · rw [if_neg (by omega), List.getElem?_append_right (by simp; omega), List.getElem?_drop]
      have hq : (l.take k ++ vs).length = k + vs.length := by simp; omega
      rw [hq, show k + vs.length + (m - (k + vs.length)) = m by omega]

theorem splice_length {α : Type} (l vs : List α) (k : Nat) (h : k + vs.length ≤ l.length) : (l.take k ++ vs ++ l.drop (k + vs.length)).length = l.length := by
  simp; omega

theorem putCells_length {cs new : List Leaf} {off : Nat} (h : off + new.length ≤ cs.length) : (putCells cs off new).length = cs.length := splice_length cs new off h
theorem putCells_getD {cs new : List Leaf} {off : Nat} (h : off + new.length ≤ cs.length) (m : Nat) :
    (putCells cs off new).getD m .junk = if off ≤ m ∧ m < off + new.length then new.getD (m - off) .junk else cs.getD m .junk := splice_getD cs new off m .junk h

theorem VV.cellsR {x : V} {v : Value} (h : VV M x v) (hx : x ≠ .junk) (ht : ∀ vs, x ≠ .tup vs) : CsR M x.cells v.cells.toList := by
  cases h with
  | junk => exact (hx rfl).elim
  | one h =>
    have h1 := h.one
    have hc : ∀ v : Value, v.oneCell' = true → v.cells = #[v] := by intro v hv; cases v <;> first | rfl | cases hv
    rw [hc _ h1]
    refine ⟨rfl, fun j hj => ?_⟩
    have : j = 0 := by simp [V.cells] at hj; omega
    subst this
    exact h
  | agg h => exact h
  | tup => exact (ht _ rfl).elim

theorem foldl_set : ∀ (vs : List Value) (off s : Nat) (cells : Array Value),
    ((vs.zipIdx s).foldl (fun (cs : Array Value) (p : Value × Nat) => cs.setIfInBounds (off + p.2) p.1) cells).size = cells.size ∧
    ∀ k, ((vs.zipIdx s).foldl (fun (cs : Array Value) (p : Value × Nat) => cs.setIfInBounds (off + p.2) p.1) cells).toList.getD k undef =
      if off + s ≤ k ∧ k < off + s + vs.length ∧ k < cells.size then vs.getD (k - (off + s)) undef else cells.toList.getD k undef
  | [], off, s, cells => ⟨rfl, fun k => by simp; intro h1 h2; omega⟩
  | v :: vs, off, s, cells => by
    obtain ⟨h1, h2⟩ := foldl_set vs off (s + 1) (cells.setIfInBounds (off + s) v)
    simp only [List.zipIdx_cons, List.foldl_cons]
    refine ⟨by rw [h1]; simp, fun k => ?_⟩
    rw [h2 k]
    simp only [Array.size_setIfInBounds, Array.toList_setIfInBounds, List.length_cons]
    by_cases hk : off + s ≤ k ∧ k < off + s + (vs.length + 1) ∧ k < cells.size
    · rw [if_pos hk]
      by_cases he : k = off + s
      · subst he
        rw [if_neg (by omega)]
        simp [List.getD, hk.2.2]
      · rw [if_pos (by omega)]
        simp only [List.getD]
        rw [show k - (off + s) = (k - (off + (s + 1))) + 1 by omega, List.getElem?_cons_succ]
    · rw [if_neg hk]
      by_cases hk' : off + (s + 1) ≤ k ∧ k < off + (s + 1) + vs.length ∧ k < cells.size
      · omega
      · rw [if_neg hk']
        simp only [List.getD, List.getElem?_set]
        split
        · rename_i he
          subst he
          have : ¬ off + s < cells.size := by omega
          simp [this]
        · rfl

theorem run_fill (place : Nat → Option (Nat × Nat)) : ∀ (parts : List (Nat × V)) (parts' : List (Nat × Value)) (cells r : List Leaf) (arr : Array Value),
    parts'.length = parts.length → (∀ (i : Nat) (p : Nat × V), parts[i]? = some p → ∃ p' : Nat × Value, parts'[i]? = some p' ∧ p'.1 = p.1 ∧ VV M p.2 p'.2) → CsR M cells arr.toList → fillAt place cells parts = some r →
    ∃ arr', Instr.fill place arr parts' = some arr' ∧ CsR M r arr'.toList
  | [], parts', cells, r, arr, hl, _, hc, e => by
    have : parts' = [] := List.eq_nil_of_length_eq_zero hl
    subst this
    cases e
    exact ⟨arr, rfl, hc⟩
  | (i, x) :: rest, parts', cells, r, arr, hl, hp, hc, e => by
    cases parts' with
    | nil => simp at hl
    | cons p' rest' =>
      obtain ⟨q, hq1, hq2, hq3⟩ := hp 0 (i, x) rfl
      simp only [List.getElem?_cons_zero, Option.some.injEq] at hq1
      subst hq1
      obtain ⟨i', v⟩ := p'
      simp only at hq2 hq3
      subst hq2
      unfold fillAt at e
      unfold Instr.fill
      cases hpl : place i' with
      | none => rw [hpl] at e; cases e
      | some os =>
        obtain ⟨off, size⟩ := os
        rw [hpl] at e
        simp only at e ⊢
        have hx : x ≠ .junk ∧ ∀ vs, x ≠ .tup vs := by
          constructor
          · rintro rfl; cases e
          · rintro vs rfl; cases e
        have e' : (if x.cells.length ≠ size ∨ off + x.cells.length > cells.length then none else fillAt place (putCells cells off x.cells) rest) = some r := by
          cases x with
          | junk => exact (hx.1 rfl).elim
          | tup vs => exact (hx.2 vs rfl).elim
          | one l => exact e
          | agg cs => exact e
        split at e'
        · cases e'
        · rename_i hg
          have hcr := hq3.cellsR hx.1 hx.2
          have hvl : v.cells.size = x.cells.length := by have := hcr.1; simpa using this
          have hal : arr.size = cells.length := by have := hc.1; simpa using this
          rw [if_neg (by simp; omega)]
          refine run_fill place rest rest' _ r _ (by simpa using hl) (fun k p hk => ?_) ?_ e'
          · obtain ⟨p', h1, h2⟩ := hp (k + 1) p (by simpa using hk)
            exact ⟨p', by simpa using h1, h2⟩
          · have hfold : v.cells.zipIdx.foldl (fun (cs : Array Value) (p : Value × Nat) => cs.setIfInBounds (off + p.2) p.1) arr =
                (v.cells.toList.zipIdx 0).foldl (fun (cs : Array Value) (p : Value × Nat) => cs.setIfInBounds (off + p.2) p.1) arr := by
              rw [← Array.foldl_toList, Array.toList_zipIdx]
            have hfold2 : (v.cells.zipIdx.foldl (fun cs (c, j) => cs.setIfInBounds (off + j) c) arr) = v.cells.zipIdx.foldl (fun (cs : Array Value) (p : Value × Nat) => cs.setIfInBounds (off + p.2) p.1) arr := rfl
            rw [hfold2, hfold]
            obtain ⟨f1, f2⟩ := foldl_set v.cells.toList off 0 arr
            have hpl' : off + x.cells.length ≤ cells.length := by omega
            refine ⟨by simp only [Array.length_toList, f1, putCells_length hpl']; exact hal, fun j hj => ?_⟩
            rw [putCells_length hpl'] at hj
            rw [putCells_getD hpl', f2 j]
            simp only [Nat.add_zero, Array.length_toList, hvl, hal]
            by_cases hj2 : off ≤ j ∧ j < off + x.cells.length
            · rw [if_pos hj2, if_pos ⟨hj2.1, hj2.2, hj⟩]
              exact hcr.2 (j - off) (by omega)
            · rw [if_neg hj2, if_neg (by omega)]
              exact hc.2 j hj

theorem tzero_some {t : TypeId} {z : List Leaf} (e : tzero P t = some z) : ∃ i v, P.info? t = some i ∧ i.zero = some v ∧ v.cells.size = i.size ∧ z.length = i.size ∧ ∀ M : Mem, CsR M z v.cells.toList := by
  unfold tzero at e
  split at e
  · rename_i i hi
    split at e
    · rename_i v hv
      split at e
      · rename_i h
        cases e
        refine ⟨i, v, hi, hv, h.1, by simp [h.1], fun M => ⟨by simp, fun j hj => ?_⟩⟩
        have hj' : j < v.cells.size := by simpa using hj
        have e1 : (v.cells.toList.map ofConst).getD j .junk = ofConst (v.cells.toList.getD j undef) := by simp [List.getD, hj']
        rw [e1]
        refine ofConst_V M _ ?_
        have : v.cells.toList.getD j undef = v.cells[j] := by simp [List.getD, hj']
        rw [this]
        exact (Array.all_eq_true.1 h.2) j hj'
      · cases e
    · cases e
  · cases e

theorem run_zeroValue' {t : TypeId} {i : TypeInfo} {v : Value} (h : P.info? t = some i) (hz : i.zero = some v) (w : World) : (zeroValue t).run P w = .ok v w := by
  simp [zeroValue, run_typeInfo' h, hz]

theorem telem_some {t e : TypeId} (h : telem P t = some e) : P.underlying t = some (.slice e) := by
  unfold telem at h
  split at h
  · cases h; assumption
  · cases h

theorem madeCells_getD (z : Array Value) (n j : Nat) (hj : j < n) (hz : 0 < z.size) : (madeCells z n).getD j undef = z.getD (j % z.size) undef := by
  have hm : j % z.size < z.size := Nat.mod_lt _ hz
  simp [madeCells, Array.getD, hj, hm]

theorem parts_R {t : Tmps} {a : Act} (hT : TR M t a.tmps) (parts : Array (Nat × Operand)) :
    ((parts.map fun (i, x) => (i, a.eval x)).toList).length = (parts.toList.map fun p => (p.1, ev t p.2)).length ∧
    ∀ (i : Nat) (p : Nat × V), (parts.toList.map fun p => (p.1, ev t p.2))[i]? = some p → ∃ p' : Nat × Value, (parts.map fun (i, x) => (i, a.eval x)).toList[i]? = some p' ∧ p'.1 = p.1 ∧ VV M p.2 p'.2 := by
  refine ⟨by simp, fun i p hp => ?_⟩
  simp only [List.getElem?_map, Option.map_eq_some_iff] at hp
  obtain ⟨q, hq, rfl⟩ := hp
  refine ⟨(q.1, a.eval q.2), ?_, rfl, ev_V hT _⟩
  simp only [Array.toList_map, List.getElem?_map, hq, Option.map_some]

theorem run_places {w : World} : ∀ (fs : List Field) (ps : List (Nat × Nat)), structPlaces P fs = some ps →
    (fs.mapM fun f => do pure (f.offset, ← sizeOf f.type) : Sem (List (Nat × Nat))).run P w = .ok ps w
  | [], ps, e => by cases e; rfl
  | f :: fs, ps, e => by
    unfold structPlaces at e
    rw [List.mapM_cons] at e
    obtain ⟨a, e1, e2⟩ := Option.bind_eq_some_iff.1 e
    obtain ⟨n, e3, rfl⟩ := Option.map_eq_some_iff.1 e1
    obtain ⟨rest, e4, e5⟩ := Option.bind_eq_some_iff.1 e2
    cases e5
    have ih := run_places (w := w) fs rest e4
    rw [List.mapM_cons]
    simp only [Sem.run_bind, run_sizeOf' e3, Result.andThen_ok, Sem.run_pure, ih]

theorem run_buildV {ty : TypeId} {parts : List (Nat × V)} {v : V} (e : buildV P ty parts = some v) {parts' : Array (Nat × Value)} (hl : parts'.toList.length = parts.length)
    (hp : ∀ (i : Nat) (p : Nat × V), parts[i]? = some p → ∃ p' : Nat × Value, parts'.toList[i]? = some p' ∧ p'.1 = p.1 ∧ VV M p.2 p'.2) (w : World) : ∃ r, VV M v r ∧ (Instr.build ty parts').run P w = .ok r w := by
  unfold buildV at e
  obtain ⟨z, e1, e2⟩ := Option.bind_eq_some_iff.1 e
  obtain ⟨i, zv, h1, h2, h3, h4, h5⟩ := tzero_some e1
  split at e2
  · rename_i fs ht
    obtain ⟨ps, e3, e4⟩ := Option.bind_eq_some_iff.1 e2
    obtain ⟨cs, e5, rfl⟩ := Option.map_eq_some_iff.1 e4
    obtain ⟨arr', g1, g2⟩ := run_fill (M := M) (fun k => ps[k]?) parts parts'.toList z cs zv.cells hl hp (h5 M) e5
    refine ⟨.agg arr', .agg g2, ?_⟩
    have hpl : (fs.mapM fun f => do pure (f.offset, ← sizeOf f.type) : Sem (Array (Nat × Nat))).run P w = .ok ps.toArray w := by
      rw [Array.mapM_eq_mapM_toList]
      rw [Sem.run_map, run_places fs.toList ps e3]; rfl
    have hfun : (fun k : Nat => ps.toArray[k]?) = fun k : Nat => ps[k]? := by funext k; simp
    unfold Instr.build
    simp only [Sem.run_bind, run_zeroValue' h1 h2, Result.andThen_ok, run_underlying ht, hpl, hfun, g1]
    rfl
  · rename_i len el ht
    obtain ⟨n, e3, e4⟩ := Option.bind_eq_some_iff.1 e2
    obtain ⟨cs, e5, rfl⟩ := Option.map_eq_some_iff.1 e4
    obtain ⟨arr', g1, g2⟩ := run_fill (M := M) (fun k => some (k * n, n)) parts parts'.toList z cs zv.cells hl hp (h5 M) e5
    refine ⟨.agg arr', .agg g2, ?_⟩
    unfold Instr.build
    simp only [Sem.run_bind, run_zeroValue' h1 h2, Result.andThen_ok, run_underlying ht, run_sizeOf' e3, g1]
    rfl
  · cases e2
end
end Go.Proofs.YtkbdhjfjbkmkcaaGreat.Abs
