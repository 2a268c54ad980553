/- The abstract machine: operations that change no memory. -/
import Derived.Test.YtkbdhjfjbkmkcaaGreatJT2
import Derived.Laws.Slices
import Derived.Laws.BytesArg
set_option linter.unusedSimpArgs false
set_option linter.unusedVariables false
namespace Go.Proofs.YtkbdhjfjbkmkcaaGreat.Abs
open Go Go.RowKit

section
variable {P : Program} {B : Nat} {M : Mem} {H : Heap} {w : World}

theorem run_isAgg {t : TypeId} {g : Bool} (h : tagg P t = some g) (w : World) : (isAgg t).run P w = .ok g w := by
  unfold tagg at h
  split at h
  · rename_i e; cases h; simp [isAgg, run_underlying e]
  · rename_i e; cases h; simp [isAgg, run_underlying e]
  · rename_i d h1 h2 e; cases h
    unfold isAgg
    simp only [Sem.run_bind, run_underlying e, Result.andThen_ok]
    cases d <;> first | rfl | (exact (h1 _ rfl).elim) | (exact (h2 _ _ rfl).elim)
  · cases h

theorem run_typeInfo' {t : TypeId} {i : TypeInfo} (h : P.info? t = some i) (w : World) : (typeInfo t).run P w = .ok i w := by
  simp [typeInfo, h]

theorem run_sizeOf' {t : TypeId} {n : Nat} (h : tsize P t = some n) (w : World) : (sizeOf t).run P w = .ok n w := by
  unfold tsize at h
  obtain ⟨i, h1, rfl⟩ := Option.map_eq_some_iff.1 h
  simp [sizeOf, run_typeInfo' h1]

theorem getD_toList (arr : Array Value) (j : Nat) : arr.toList.getD j undef = arr.getD j undef := by
  simp [List.getD, Array.getD]
  split <;> rename_i h <;> simp [h]

theorem CsR.get {cs : List Leaf} {arr : Array Value} (h : CsR M cs arr.toList) {j : Nat} {l : Leaf} (e : cs[j]? = some l) : ∃ u, arr[j]? = some u ∧ VR M l u := by
  obtain ⟨h1, h2⟩ := h
  have hj := (List.getElem?_eq_some_iff.1 e).1
  have hj' : j < arr.size := by simpa [← h1] using hj
  have h3 := h2 j hj
  refine ⟨arr[j], by simp [hj'], ?_⟩
  simpa [List.getD, e, hj'] using h3

theorem run_part {t : TypeId} {cs : List Leaf} {off : Nat} {v : V} {arr : Array Value} (e : partV P t cs off = some v) (h : CsR M cs arr.toList) (w : World) :
    ∃ u, VV M v u ∧ (part t arr off).run P w = .ok u w := by
  unfold partV at e
  obtain ⟨g, e1, e2⟩ := Option.bind_eq_some_iff.1 e
  obtain ⟨n, e3, e4⟩ := Option.bind_eq_some_iff.1 e2
  cases g with
  | true =>
    simp only [if_true] at e4
    obtain ⟨r, e5, rfl⟩ := Option.map_eq_some_iff.1 e4
    obtain ⟨k1, k2, k3⟩ := cut_some e5
    refine ⟨.agg (arr.extract off (off + n)), .agg ⟨?_, fun j hj => ?_⟩, by simp [part, run_isAgg e1, run_sizeOf' e3]⟩
    · have := h.1; simp at this ⊢; omega
    · rw [k2] at hj
      rw [k3 j hj]
      have h2 := h.2 (off + j) (by omega)
      have hl := h.1
      simp at hl
      have : (arr.extract off (off + n)).toList.getD j undef = arr.toList.getD (off + j) undef := by
        simp [List.getD, List.getElem?_take, List.getElem?_drop, hj]
      rw [this]; exact h2
  | false =>
    simp only [Bool.false_eq_true, if_false] at e4
    obtain ⟨l, e5, rfl⟩ := Option.map_eq_some_iff.1 e4
    obtain ⟨u, h1, h2⟩ := h.get e5
    exact ⟨u, .one h2, by simp [part, run_isAgg e1, h1]⟩

theorem bytes_beq (x y : List UInt8) : ((⟨⟨x⟩⟩ : ByteArray) == ⟨⟨y⟩⟩) = (x == y) := by
  rw [beq_toListBytes, ByteArray.toList_eq, ByteArray.toList_eq]

set_option maxHeartbeats 4000000 in
theorem run_eqLeaf {t : TypeId} {x y : Leaf} {u u' : Value} {r : Bool} (e : eqLeaf P t x y = some r) (hx : VR M x u) (hy : VR M y u') (d : Nat) (w : World) :
    (Op.equalIn (d + 1) t u u').run P w = .ok r w := by
  unfold eqLeaf at e
  split at e
  · rename_i h; cases e; rw [hx.bool_inv, hy.bool_inv]; simp [Op.equalIn, run_underlying h]
  · rename_i h
    split at e
    · cases e; rename_i hk; subst hk; rw [hx.int_inv, hy.int_inv]; simp [Op.equalIn, run_underlying h]
    · cases e
  · rename_i h; cases e; rw [hx.str_inv, hy.str_inv]; simp [Op.equalIn, run_underlying h, bytes_beq]
  · rename_i h
    rw [hx.nilp_inv]
    split at e
    · cases e; rw [hy.nilp_inv]; simp [Op.equalIn, run_underlying h]
    · cases e; obtain ⟨_, _, rfl⟩ := hy.ptr_inv; simp [Op.equalIn, run_underlying h]
    · cases e; obtain ⟨_, _, _, rfl, _⟩ := hy.iptr_inv; simp [Op.equalIn, run_underlying h]
    · cases e
  · rename_i h _
    rw [hy.nilp_inv]
    split at e
    · cases e; obtain ⟨_, _, rfl⟩ := hx.ptr_inv; simp [Op.equalIn, run_underlying h]
    · cases e; obtain ⟨_, _, _, rfl, _⟩ := hx.iptr_inv; simp [Op.equalIn, run_underlying h]
    · cases e
  · rename_i h
    rw [hx.nils_inv]
    split at e
    · cases e; rw [hy.nils_inv]; simp [Op.equalIn, run_underlying h]
    · split at e
      · cases e
      · rename_i hz
        cases e; obtain ⟨_, _, _, rfl, _⟩ := hy.sl_at (.inl (Nat.pos_of_ne_zero hz)); simp [Op.equalIn, run_underlying h]
    · cases e; obtain ⟨_, _, _, _, rfl, _⟩ := hy.isl_at (by simp); simp [Op.equalIn, run_underlying h]
    · cases e
  · rename_i h _
    rw [hy.nils_inv]
    split at e
    · split at e
      · cases e
      · rename_i hz
        cases e; obtain ⟨_, _, _, rfl, _⟩ := hx.sl_at (.inl (Nat.pos_of_ne_zero hz)); simp [Op.equalIn, run_underlying h]
    · cases e; obtain ⟨_, _, _, _, rfl, _⟩ := hx.isl_at (by simp); simp [Op.equalIn, run_underlying h]
    · cases e
  · rename_i h
    rw [hx.nilm_inv]
    split at e
    · cases e; rw [hy.nilm_inv]; simp [Op.equalIn, run_underlying h]
    · cases e; obtain ⟨_, rfl, _⟩ := hy.map_inv; simp [Op.equalIn, run_underlying h]
    · cases e; obtain ⟨_, _, _, rfl, _⟩ := hy.imap_inv; simp [Op.equalIn, run_underlying h]
    · cases e
  · rename_i h _
    rw [hy.nilm_inv]
    split at e
    · cases e; obtain ⟨_, rfl, _⟩ := hx.map_inv; simp [Op.equalIn, run_underlying h]
    · cases e; obtain ⟨_, _, _, rfl, _⟩ := hx.imap_inv; simp [Op.equalIn, run_underlying h]
    · cases e
  · rename_i h
    rw [hx.nilf_inv]
    split at e
    · cases e; rw [hy.nilf_inv]; simp [Op.equalIn, run_underlying h]
    · cases e; obtain ⟨_, rfl, _⟩ := hy.fn_inv; simp [Op.equalIn, run_underlying h]
    · cases e
  · rename_i h _
    rw [hy.nilf_inv]
    split at e
    · cases e; obtain ⟨_, rfl, _⟩ := hx.fn_inv; simp [Op.equalIn, run_underlying h]
    · cases e
  · cases e

theorem run_part_leaf {t : TypeId} (h : tagg P t = some false) {arr : Array Value} {off : Nat} {u : Value} (e : arr[off]? = some u) (w : World) : (part t arr off).run P w = .ok u w := by
  simp [part, run_isAgg h, e]

theorem run_eqFields {xs ys : List Leaf} {ax ay : Array Value} (hx : CsR M xs ax.toList) (hy : CsR M ys ay.toList) (d : Nat) (w : World) :
    ∀ {fs : List Field} {r : Bool}, eqFields P xs ys fs = some r → (Op.eqFields (d + 1) ax ay fs).run P w = .ok r w
  | [], r, e => by cases e; rfl
  | f :: fs, r, e => by
    unfold eqFields at e
    split at e
    · cases e
    · rename_i hn
      unfold Op.eqFields
      simp only [ne_eq, hn, not_false_eq_true, if_true, Sem.run_bind]
      have go : ∀ (u u' : Value) (b : Bool), ax[f.offset]? = some u → ay[f.offset]? = some u' → tagg P f.type = some false → (Op.equalIn (d + 1) f.type u u').run P w = .ok b w →
          (if b = true then eqFields P xs ys fs else some false) = some r →
          (((part f.type ax f.offset).run P w).andThen fun a w' => ((part f.type ay f.offset).run P w').andThen fun b w'' => ((Op.equalIn (d + 1) f.type a b).run P w'').andThen fun r w''' =>
            (if (!r) = true then pure false else Op.eqFields (d + 1) ax ay fs).run P w''') = .ok r w := by
        intro u u' b h1 h2 h3 h4 h5
        simp only [run_part_leaf h3 h1, run_part_leaf h3 h2, Result.andThen_ok, h4]
        cases b with
        | true => simp only [Bool.not_true, Bool.false_eq_true, if_false]; simp only [if_true] at h5; exact run_eqFields hx hy d w h5
        | false => simp only [Bool.not_false, if_true]; simp only [Bool.false_eq_true, if_false] at h5; cases h5; rfl
      split at e
      · rename_i x y ht h1 h2
        obtain ⟨u, g1, g2⟩ := hx.get h1
        obtain ⟨u', g3, g4⟩ := hy.get h2
        exact go u u' (x == y) g1 g3 (by simp [tagg, ht]) (by rw [g2.bool_inv, g4.bool_inv]; simp [Op.equalIn, run_underlying ht]) e
      · rename_i k0 j x k y ht h1 h2
        split at e
        · rename_i hk; subst hk
          obtain ⟨u, g1, g2⟩ := hx.get h1
          obtain ⟨u', g3, g4⟩ := hy.get h2
          exact go u u' (x == y) g1 g3 (by simp [tagg, ht]) (by rw [g2.int_inv, g4.int_inv]; simp [Op.equalIn, run_underlying ht]) e
        · cases e
      · rename_i x y ht h1 h2
        obtain ⟨u, g1, g2⟩ := hx.get h1
        obtain ⟨u', g3, g4⟩ := hy.get h2
        exact go u u' (x == y) g1 g3 (by simp [tagg, ht]) (by rw [g2.str_inv, g4.str_inv]; simp [Op.equalIn, run_underlying ht, bytes_beq]) e
      · cases e

theorem run_eqV {t : TypeId} {x y : V} {u u' : Value} {r : Bool} (e : eqV P t x y = some r) (hx : VV M x u) (hy : VV M y u') (op : BinOp) (ox oy : Operand) (w : World) :
    (Op.equal t u u').run P w = .ok r w ∧ ((eqGuard op t ox oy u u').run P w = .ok () w) := by
  unfold eqV at e
  split at e
  · rename_i l l'
    refine ⟨run_eqLeaf e hx.one_inv hy.one_inv 9999 w, ?_⟩
    have h1 := hx.one_inv
    have : eqGuard op t ox oy u u' = pure () := by
      cases h1 with
      | pure h => cases h <;> first | exact eqGuard_at_bool .. | exact eqGuard_at_int .. | exact eqGuard_at_string .. | exact eqGuard_at_pointer .. | exact eqGuard_at_slice .. | exact eqGuard_at_map .. | exact eqGuard_at_nilFunc .. | exact eqGuard_at_func ..
      | junk v h => unfold eqLeaf at e; split at e <;> first | (cases e; done) | (rename_i h; cases h; done) | skip
                    all_goals first | (split at e <;> cases e) | skip
      | ptr => exact eqGuard_at_pointer ..
      | sl => exact eqGuard_at_slice ..
      | slnil => exact eqGuard_at_slice ..
      | map => exact eqGuard_at_map ..
      | fn => exact eqGuard_at_func ..
    rw [this]; rfl
  · rename_i xs ys
    obtain ⟨ax, rfl, hax⟩ := hx.agg_inv
    obtain ⟨ay, rfl, hay⟩ := hy.agg_inv
    split at e
    · rename_i fs ht
      split at e
      · rename_i hg
        have hf : P.underlying t = some (.struct (P.fieldsOf t)) := by simp [Program.fieldsOf, ht]
        have hfs : P.fieldsOf t = fs := by simp [Program.fieldsOf, ht]
        refine ⟨?_, run_eqGuard_agg w op t ox oy ax ay hg.1⟩
        show (Op.equalIn (9999 + 1) t (.agg ax) (.agg ay)).run P w = _
        rw [run_equalIn_struct w 9999 t ax ay hf hg.2, hfs]
        exact run_eqFields hax hay 9998 w e
      · cases e
    · cases e
  · cases e

end
end Go.Proofs.YtkbdhjfjbkmkcaaGreat.Abs
