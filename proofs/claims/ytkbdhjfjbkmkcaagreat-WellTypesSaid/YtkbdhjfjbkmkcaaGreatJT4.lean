/- The abstract machine: operations on values. -/
import Derived.Test.YtkbdhjfjbkmkcaaGreatJT3
set_option linter.unusedSimpArgs false
set_option linter.unusedVariables false
namespace Go.Proofs.YtkbdhjfjbkmkcaaGreat.Abs
open Go Go.RowKit

section
variable {P : Program} {B : Nat} {M : Mem} {H : Heap} {w : World}

theorem VV.int (k : IntKind) (n : Int) : VV M (.one (.int k n)) (.int k n) := .one (.pure (.int k n))
theorem VV.bool (b : Bool) : VV M (.one (.bool b)) (.bool b) := .one (.pure (.bool b))
theorem VV.str (s : List UInt8) : VV M (.one (.str s)) (.string ⟨⟨s⟩⟩) := .one (.pure (.str s))

theorem run_intBin {op : BinOp} {k : IntKind} {a b : Int} {l : Leaf} (e : intBin op k a b = some l) (t : TypeId) (w : World) (h1 : op ≠ .shl) (h2 : op ≠ .shr) :
    ∃ u, VR M l u ∧ (binOp op t (.int k a) (.int k b)).run P w = .ok u w := by
  cases op <;> simp only [intBin, Option.some.injEq, reduceCtorEq] at e
  case quo =>
    split at e
    · cases e
    · rename_i h; cases e; exact ⟨_, .pure (.int _ _), by simp [binOp, Op.intDiv, h]⟩
  case rem =>
    split at e
    · cases e
    · rename_i h; cases e; exact ⟨_, .pure (.int _ _), by simp [binOp, Op.intDiv, h]⟩
  all_goals subst e
  all_goals first
    | (refine ⟨_, .pure (.int _ _), ?_⟩; first | (simp [binOp, Op.intArith]; done) | (rw [binOp_and]; rfl) | (rw [binOp_or]; rfl) | (rw [binOp_xor]; rfl) | (rw [binOp_andNot]; rfl))
    | (refine ⟨_, .pure (.bool _), ?_⟩; simp [binOp, Op.intCmp]; done)

theorem run_strBin {op : BinOp} {a b : List UInt8} {l : Leaf} (e : strBin op a b = some l) (t : TypeId) (w : World) :
    ∃ u, VR M l u ∧ (binOp op t (.string ⟨⟨a⟩⟩) (.string ⟨⟨b⟩⟩)).run P w = .ok u w := by
  have ha : (⟨⟨a⟩⟩ : ByteArray).toList = a := ByteArray.toList_eq _
  have hb : (⟨⟨b⟩⟩ : ByteArray).toList = b := ByteArray.toList_eq _
  cases op <;> simp only [strBin, Option.some.injEq, reduceCtorEq] at e
  case add =>
    split at e
    · rename_i h
      cases e
      refine ⟨_, .pure (.str _), ?_⟩
      have hs : ¬ (((⟨⟨a⟩⟩ : ByteArray).size + (⟨⟨b⟩⟩ : ByteArray).size : Nat) : Int) > IntKind.i64.max := by
        show ¬ ((a.length + b.length : Nat) : Int) > IntKind.i64.max
        rw [IntKind.max_i64]; omega
      have hap : (⟨⟨a⟩⟩ : ByteArray) ++ ⟨⟨b⟩⟩ = ⟨⟨a ++ b⟩⟩ := by
        apply ByteArray.ext
        rw [ByteArray.data_append]
        apply Array.ext'
        simp
      simp only [binOp, Op.stringOp]
      rw [if_neg hs, hap]; rfl
    · cases e
  all_goals (subst e; exact ⟨_, .pure (.bool _), by simp [binOp, Op.stringOp, ha, hb]⟩)

theorem binOp_eql' {t : TypeId} {u u' : Value} {r : Bool} (h : (Op.equal t u u').run P w = .ok r w) (hni : ∀ k n k' n', ¬ (u = .int k n ∧ u' = .int k' n')) (hns : ∀ s s', ¬ (u = .string s ∧ u' = .string s'))
    (hu : (∃ b, u = .bool b) ∨ (∃ k n, u = .int k n) ∨ (∃ s, u = .string s) ∨ (∃ a, u = .pointer a) ∨ (∃ a n c, u = .slice a n c) ∨ (∃ r, u = .map r) ∨ u = .nilFunc ∨ (∃ f a c, u = .func f a c) ∨ ∃ cs, u = .agg cs) :
    (binOp .eql t u u').run P w = .ok (.bool r) w ∧ (binOp .neq t u u').run P w = .ok (.bool (!r)) w := by
  have e1 : binOp .eql t u u' = (Op.equal t u u' >>= fun b => pure (.bool b)) := by
    unfold binOp
    rcases hu with ⟨b, rfl⟩ | ⟨k, n, rfl⟩ | ⟨s, rfl⟩ | ⟨a, rfl⟩ | ⟨a, n, c, rfl⟩ | ⟨r, rfl⟩ | rfl | ⟨f, a, c, rfl⟩ | ⟨cs, rfl⟩ <;> cases u' <;> first | rfl | (exact (hni _ _ _ _ ⟨rfl, rfl⟩).elim) | (exact (hns _ _ ⟨rfl, rfl⟩).elim)
  have e2 : binOp .neq t u u' = (Op.equal t u u' >>= fun b => pure (.bool (!b))) := by
    unfold binOp
    rcases hu with ⟨b, rfl⟩ | ⟨k, n, rfl⟩ | ⟨s, rfl⟩ | ⟨a, rfl⟩ | ⟨a, n, c, rfl⟩ | ⟨r, rfl⟩ | rfl | ⟨f, a, c, rfl⟩ | ⟨cs, rfl⟩ <;> cases u' <;> first | rfl | (exact (hni _ _ _ _ ⟨rfl, rfl⟩).elim) | (exact (hns _ _ ⟨rfl, rfl⟩).elim)
  rw [e1, e2]
  simp [h]

theorem shapes {l : Leaf} {u : Value} (hl : l ≠ .junk) (h : VR M l u) :
    (∃ b, u = .bool b) ∨ (∃ k n, u = .int k n) ∨ (∃ s, u = .string s) ∨ (∃ a, u = .pointer a) ∨ (∃ a n c, u = .slice a n c) ∨ (∃ r, u = .map r) ∨ u = .nilFunc ∨ (∃ f a c, u = .func f a c) ∨ ∃ cs, u = .agg cs := by
  cases h with
  | pure h => cases h <;> simp
  | junk _ _ => exact (hl rfl).elim
  | ptr => simp
  | sl => simp
  | slnil => simp
  | map => simp
  | fn => simp

theorem run_binV {op : BinOp} {t : TypeId} {x y v : V} {u u' : Value} (e : binV P op t x y = some v) (hx : VV M x u) (hy : VV M y u') (ox oy : Operand) (w : World) :
    ∃ r, VV M v r ∧ (do eqGuard op t ox oy u u'; binOp op t u u' : Sem Value).run P w = .ok r w := by
  unfold binV at e
  split at e
  · rename_i k a k' b
    rw [hx.one_inv.int_inv, hy.one_inv.int_inv, eqGuard_at_int]
    simp only [Sem.run_bind, Sem.run_pure, Result.andThen_ok]
    split at e
    · split at e
      · cases e
      · rename_i hb; cases e
        exact ⟨_, .int _ _, by simp [binOp, Op.shift, hb]⟩
    · split at e
      · cases e
      · rename_i hb; cases e
        exact ⟨_, .int _ _, by simp [binOp, Op.shift, hb]⟩
    · rename_i h1 h2
      split at e
      · rename_i hk; subst hk
        obtain ⟨l, e1, rfl⟩ := Option.map_eq_some_iff.1 e
        obtain ⟨r, h3, h4⟩ := run_intBin (P := P) (M := M) e1 t w h1 h2
        exact ⟨r, .one h3, h4⟩
      · cases e
  · rename_i a b
    rw [hx.one_inv.str_inv, hy.one_inv.str_inv, eqGuard_at_string]
    simp only [Sem.run_bind, Sem.run_pure, Result.andThen_ok]
    obtain ⟨l, e1, rfl⟩ := Option.map_eq_some_iff.1 e
    obtain ⟨r, h3, h4⟩ := run_strBin (P := P) (M := M) e1 t w
    exact ⟨r, .one h3, h4⟩
  · rename_i hni hns
    have key : ∀ (r : Bool), eqV P t x y = some r → (binOp .eql t u u').run P w = .ok (.bool r) w ∧ (binOp .neq t u u').run P w = .ok (.bool (!r)) w := by
      intro r hr
      have h1 := (run_eqV hr hx hy .eql ox oy w).1
      refine binOp_eql' h1 ?_ ?_ ?_
      · rintro k n k' n' ⟨rfl, rfl⟩
        unfold eqV at hr
        split at hr
        · rename_i l l'
          have a1 := hx.one_inv
          have a2 := hy.one_inv
          cases a1 with
          | pure a1 => cases a1; cases a2 with
            | pure a2 => cases a2; exact hni _ _ _ _ rfl rfl
            | junk _ _ => unfold eqLeaf at hr; split at hr <;> first | (cases hr; done) | (simp_all; done)
          | junk _ _ => unfold eqLeaf at hr; split at hr <;> first | (cases hr; done) | (split at hr <;> simp_all; done) | (simp_all; done)
        · obtain ⟨_, h, _⟩ := hx.agg_inv; cases h
        · cases hr
      · rintro s s' ⟨rfl, rfl⟩
        unfold eqV at hr
        split at hr
        · rename_i l l'
          have a1 := hx.one_inv
          have a2 := hy.one_inv
          cases a1 with
          | pure a1 => cases a1; cases a2 with
            | pure a2 => cases a2; exact hns _ _ rfl rfl
            | junk _ _ => unfold eqLeaf at hr; split at hr <;> first | (cases hr; done) | (simp_all; done)
          | junk _ _ => unfold eqLeaf at hr; split at hr <;> first | (cases hr; done) | (split at hr <;> simp_all; done) | (simp_all; done)
        · obtain ⟨_, h, _⟩ := hx.agg_inv; cases h
        · cases hr
      · unfold eqV at hr
        split at hr
        · rename_i l l'
          refine shapes ?_ hx.one_inv
          rintro rfl
          unfold eqLeaf at hr; split at hr <;> first | (cases hr; done) | (split at hr <;> simp_all; done) | (simp_all; done)
        · obtain ⟨cs, rfl, _⟩ := hx.agg_inv; exact .inr (.inr (.inr (.inr (.inr (.inr (.inr (.inr ⟨_, rfl⟩)))))))
        · cases hr
    split at e
    · obtain ⟨r, e1, rfl⟩ := Option.map_eq_some_iff.1 e
      refine ⟨_, .bool r, ?_⟩
      simp only [Sem.run_bind, (run_eqV e1 hx hy .eql ox oy w).2, Result.andThen_ok, (key r e1).1]
    · obtain ⟨r, e1, rfl⟩ := Option.map_eq_some_iff.1 e
      refine ⟨_, .bool (!r), ?_⟩
      simp only [Sem.run_bind, (run_eqV e1 hx hy .neq ox oy w).2, Result.andThen_ok, (key r e1).2]
    · cases e

theorem run_unV {op : UnOp} {x v : V} {u : Value} (e : unV op x = some v) (hx : VV M x u) (w : World) : ∃ r, VV M v r ∧ (Op.unary op u).run P w = .ok r w := by
  unfold unV at e
  split at e
  · cases e; rw [hx.one_inv.bool_inv]; exact ⟨_, .bool _, by simp [Op.unary]⟩
  · cases e; rw [hx.one_inv.int_inv]; exact ⟨_, .int _ _, by simp [Op.unary, Op.intArith]⟩
  · cases e

theorem fieldOf_some {s : TypeId} {f : Nat} {fd : Field} (e : fieldOf P s f = some fd) : ∃ fs, P.underlying s = some (.struct fs) ∧ fs[f]? = some fd := by
  unfold fieldOf at e
  split at e
  · exact ⟨_, by assumption, e⟩
  · cases e

theorem run_fieldAddrV {s : TypeId} {x v : V} {f : Nat} {u : Value} (e : fieldAddrV P s x f = some v) (hx : VV M x u) (w : World) : ∃ r, VV M v r ∧ (Instr.fieldAt s u f).run P w = .ok r w := by
  unfold fieldAddrV at e
  obtain ⟨fd, e1, e2⟩ := Option.bind_eq_some_iff.1 e
  obtain ⟨n, e3, e4⟩ := Option.bind_eq_some_iff.1 e2
  obtain ⟨fs, h1, h2⟩ := fieldOf_some e1
  split at e4
  · cases e4
  · rename_i hn
    split at e4
    · cases e4
      obtain ⟨hb, g1, rfl⟩ := hx.one_inv.ptr_inv
      refine ⟨_, .one (.ptr _ _ _ _ hb g1), ?_⟩
      simp [Instr.fieldAt, run_underlying h1, h2, Instr.sureAddr, fieldPlace, run_sizeOf' e3, hn, Addr.add_lit, Nat.add_assoc]
    · cases e4
      obtain ⟨b, o, arr, rfl, g1, g2, g3⟩ := hx.one_inv.iptr_inv
      refine ⟨_, .one (.pure (.iptr _ _ b o arr g1 g2 g3)), ?_⟩
      simp [Instr.fieldAt, run_underlying h1, h2, Instr.sureAddr, fieldPlace, run_sizeOf' e3, hn, Addr.add_lit, Nat.add_assoc]
    · cases e4

theorem run_fieldV {s : TypeId} {cs : List Leaf} {v : V} {f : Nat} {u : Value} (e : ((fieldOf P s f).bind fun fd => partV P fd.type cs fd.offset) = some v) (hx : VV M (.agg cs) u) (w : World) : ∃ r, VV M v r ∧ (Instr.field s u f).run P w = .ok r w := by
  obtain ⟨fd, e1, e2⟩ := Option.bind_eq_some_iff.1 e
  obtain ⟨fs, h1, h2⟩ := fieldOf_some e1
  obtain ⟨arr, rfl, h3⟩ := hx.agg_inv
  obtain ⟨r, h4, h5⟩ := run_part e2 h3 w
  exact ⟨r, h4, by simp [Instr.field, run_underlying h1, h2, asAgg, h5]⟩

theorem run_indexAddrV {t : TypeId} {x i v : V} {u ui : Value} (e : indexAddrV P t x i = some v) (hx : VV M x u) (hi : VV M i ui) (w : World) : ∃ r, VV M v r ∧ (Instr.indexAt t u ui).run P w = .ok r w := by
  unfold indexAddrV at e
  obtain ⟨n, e1, e2⟩ := Option.bind_eq_some_iff.1 e
  obtain ⟨k, rfl⟩ := natOf_inv hi e1
  clear e
  split at e2
  · rename_i el es ht
    obtain ⟨cs, e3, e4⟩ := Option.bind_eq_some_iff.1 e2
    split at e4
    · rename_i hsz
      cases e4
      obtain ⟨a, arr, esz, cap, rfl, g0, g1, g2, g3, g4⟩ := hx.one_inv.isl_at (by rintro rfl; simp at e3)
      have hn : n < es.length := (List.getElem?_eq_some_iff.1 e3).1
      have hcs : es.getD n [] = cs := by simp [List.getD, e3]
      have hlen := g2 n hn
      rw [hcs] at hlen
      rcases g1 with g1 | ⟨g1, g1'⟩
      · rw [g1] at hn; simp at hn
      · have hb : a.off + n * esz + cs.length ≤ arr.size := by
          have hA : (n + 1) * esz ≤ es.length * esz := Nat.mul_le_mul_right _ (by omega)
          rw [Nat.add_mul, Nat.one_mul] at hA
          omega
        obtain ⟨blk, off, sp⟩ := a
        simp only at g0 g1 g3 g1' hb
        subst g0
        refine ⟨.pointer (some ⟨blk, off + n * esz + 0, none⟩), .one (.pure (.iptr cs 0 blk (off + n * esz) arr g1 hb (fun j hj => ?_))), ?_⟩
        · have := g3 n j hn (by omega)
          rwa [hcs] at this
        · have h0 : n < es.length := hn
          simp [Instr.indexAt, asIntOf, run_underlying ht, h0, run_sizeOf' hsz, Addr.add_lit, hlen]
    · cases e4
  · rename_i el id esz sz off len ht
    split at e2
    · rename_i h
      cases e2
      obtain ⟨cap, a, hb, rfl, g1, g2, g3, g4, g5, g6, g7, g8, g9⟩ := hx.one_inv.sl_at (by omega)
      obtain ⟨blk, ao, sp⟩ := a
      simp only at g3 g4 g5
      subst g4
      have hc : ao = off * esz := by rcases g5 with g5 | g5 <;> omega
      subst hc
      subst g3
      have hsz' : tsize P el = some hb.esz := by rw [g2]; exact h.2
      refine ⟨_, .one (.ptr id sz (off + n) 0 hb g1), ?_⟩
      have h0 : n < len := h.1
      simp [Instr.indexAt, asIntOf, run_underlying ht, h0, run_sizeOf' hsz', Addr.add_lit, Nat.add_mul, ← g2]
    · cases e2
  · rename_i m el id sz kk off ht
    obtain ⟨q, e3, e4⟩ := Option.bind_eq_some_iff.1 e2
    split at e4
    · rename_i hn
      cases e4
      obtain ⟨hb, g1, rfl⟩ := hx.one_inv.ptr_inv
      refine ⟨_, .one (.ptr _ _ _ _ hb g1), ?_⟩
      have h0 : n < m := hn
      simp [Instr.indexAt, asIntOf, run_underlying ht, Instr.sureAddr, h0, run_sizeOf' e3, Addr.add_lit, Nat.add_assoc]
    · cases e4
  · rename_i m el cs off ht
    obtain ⟨q, e3, e4⟩ := Option.bind_eq_some_iff.1 e2
    split at e4
    · rename_i hn
      cases e4
      obtain ⟨b, o, arr, rfl, g1, g2, g3⟩ := hx.one_inv.iptr_inv
      refine ⟨_, .one (.pure (.iptr _ _ b o arr g1 g2 g3)), ?_⟩
      have h0 : n < m := hn
      simp [Instr.indexAt, asIntOf, run_underlying ht, Instr.sureAddr, h0, run_sizeOf' e3, Addr.add_lit, Nat.add_assoc]
    · cases e4
  · cases e2

theorem run_indexV {t : TypeId} {x i v : V} {u ui : Value} (e : indexV P t x i = some v) (hx : VV M x u) (hi : VV M i ui) (w : World) : ∃ r, VV M v r ∧ (Instr.index t u ui).run P w = .ok r w := by
  unfold indexV at e
  obtain ⟨n, e1, e2⟩ := Option.bind_eq_some_iff.1 e
  obtain ⟨k, rfl⟩ := natOf_inv hi e1
  clear e
  split at e2
  · rename_i s ht
    obtain ⟨b, e3, rfl⟩ := Option.map_eq_some_iff.1 e2
    rw [hx.one_inv.str_inv]
    refine ⟨_, .int _ _, ?_⟩
    have h1 : (⟨⟨s⟩⟩ : ByteArray)[n]? = some b := by
      obtain ⟨hn, hb⟩ := List.getElem?_eq_some_iff.1 e3
      have hn' : n < (⟨⟨s⟩⟩ : ByteArray).size := hn
      rw [getElem?_pos (⟨⟨s⟩⟩ : ByteArray) n hn']
      congr 1
    simp [Instr.index, asIntOf, run_underlying ht, h1]
  · rename_i m el cs ht
    obtain ⟨q, e3, e4⟩ := Option.bind_eq_some_iff.1 e2
    split at e4
    · rename_i hn
      obtain ⟨arr, rfl, h3⟩ := hx.agg_inv
      obtain ⟨r, h4, h5⟩ := run_part e4 h3 w
      have h0 : n < m := hn
      exact ⟨r, h4, by simp [Instr.index, asIntOf, run_underlying ht, h0, run_sizeOf' e3, h5]⟩
    · cases e4
  · cases e2
end
end Go.Proofs.YtkbdhjfjbkmkcaaGreat.Abs
