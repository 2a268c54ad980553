/- The abstract machine: slicing, conversions, composite values. -/
import Derived.Test.YtkbdhjfjbkmkcaaGreatJT4
set_option linter.unusedSimpArgs false
set_option linter.unusedVariables false
namespace Go.Proofs.YtkbdhjfjbkmkcaaGreat.Abs
open Go Go.RowKit

section
variable {P : Program} {B : Nat} {M : Mem} {H : Heap} {w : World}

def OV (M : Mem) : Option V → Option Value → Prop
  | none, none => True
  | some x, some u => VV M x u
  | _, _ => False

theorem OV_map {t : Tmps} {a : Act} (h : TR M t a.tmps) (x : Option Operand) : OV M (x.map (ev t)) (x.map a.eval) := by
  cases x with
  | none => trivial
  | some x => exact ev_V h x

theorem run_boundsV {len cap : Nat} {lo hi mx : Option V} {b : Nat × Nat × Option Nat} (e : boundsV len lo hi mx = some b) {lo' hi' mx' : Option Value}
    (h1 : OV M lo lo') (h2 : OV M hi hi') (h3 : OV M mx mx') (sl : Bool) (hc : b.2.2.getD cap ≤ cap) (hh : b.2.1 ≤ b.2.2.getD cap) (w : World) :
    b.1 ≤ b.2.1 ∧ (Instr.sliceBounds sl len cap lo' hi' mx').run P w = .ok (b.1, b.2.1, b.2.2.getD cap) w := by
  unfold boundsV at e
  obtain ⟨l, e1, e⟩ := Option.bind_eq_some_iff.1 e
  obtain ⟨h, e2, e⟩ := Option.bind_eq_some_iff.1 e
  obtain ⟨m, e3, e⟩ := Option.bind_eq_some_iff.1 e
  split at e
  · rename_i hlh
    cases e
    simp only at hc hh ⊢
    refine ⟨hlh, ?_⟩
    have A : ∀ (k : IntKind) (i y : Nat) (code : BoundsCode), i ≤ y → (Instr.sliceBound (.int k i) y code).run P w = .ok i w := by
      intro k i y code hi
      rw [run_sliceBound w k i y _ (by omega) (by omega)]; simp
    have hlo : (lo' = none ∧ l = 0) ∨ ∃ k, lo' = some (.int k l) := by
      cases lo with
      | none => cases lo' with
        | none => simp only [optNat, Option.some.injEq] at e1; exact .inl ⟨rfl, e1.symm⟩
        | some _ => exact h1.elim
      | some lv => cases lo' with
        | none => exact h1.elim
        | some lv' => obtain ⟨k, rfl⟩ := natOf_inv h1 e1; exact .inr ⟨k, rfl⟩
    have hhi : (hi' = none ∧ h = len ∧ m = none ∧ mx' = none) ∨ ∃ k, hi' = some (.int k h) := by
      cases hi with
      | none => cases hi' with
        | none =>
          simp only [optNat, Option.some.injEq] at e2
          cases mx with
          | none => cases mx' with
            | none => cases e3; exact .inl ⟨rfl, e2.symm, rfl, rfl⟩
            | some _ => exact h3.elim
          | some _ => simp at e3
        | some _ => exact h2.elim
      | some lv => cases hi' with
        | none => exact h2.elim
        | some lv' => obtain ⟨k, rfl⟩ := natOf_inv h2 e2; exact .inr ⟨k, rfl⟩
    have hmx : (mx' = none ∧ m = none) ∨ ∃ k q, mx' = some (.int k (q : Nat)) ∧ m = some q := by
      cases mx with
      | none => cases mx' with
        | none => cases e3; exact .inl ⟨rfl, rfl⟩
        | some _ => exact h3.elim
      | some lv => cases mx' with
        | none => exact h3.elim
        | some lv' =>
          simp only at e3
          split at e3
          · cases e3
          · obtain ⟨q, e4, rfl⟩ := Option.map_eq_some_iff.1 e3
            obtain ⟨k, rfl⟩ := natOf_inv h3 e4
            exact .inr ⟨k, q, rfl, rfl⟩
    clear e1 e2 e3 h1 h2 h3
    rcases hmx with ⟨rfl, rfl⟩ | ⟨km, q, rfl, rfl⟩
    · simp only [Option.getD_none] at hc hh ⊢
      rcases hhi with ⟨rfl, rfl, _, _⟩ | ⟨kh, rfl⟩ <;> rcases hlo with ⟨rfl, rfl⟩ | ⟨kl, rfl⟩ <;> simp [Instr.sliceBounds, A, hh, hlh]
    · simp only [Option.getD_some] at hc hh ⊢
      rcases hhi with ⟨rfl, rfl, h0, _⟩ | ⟨kh, rfl⟩
      · cases h0
      · rcases hlo with ⟨rfl, rfl⟩ | ⟨kl, rfl⟩ <;> simp [Instr.sliceBounds, A, hh, hlh, hc]
  · cases e

theorem getD_drop_take {es : List (List Leaf)} {l h i : Nat} (hi : i < h - l) : ((es.take h).drop l).getD i [] = es.getD (l + i) [] := by
  simp only [List.getD, List.getElem?_drop, List.getElem?_take]
  rw [if_pos (by omega)]

theorem zsl_any {S : Stab} (b : Option Addr) : PVR S .zsl (.slice b 0 0) := by cases b with | none => exact .zslnil | some a => exact .zsl a

theorem run_sliceV {t : TypeId} {x v : V} {lo hi mx : Option V} (e : sliceV P t x lo hi mx = some v) {u : Value} {lo' hi' mx' : Option Value} (hx : VV M x u)
    (h1 : OV M lo lo') (h2 : OV M hi hi') (h3 : OV M mx mx') (w : World) : ∃ r, VV M v r ∧ (Instr.sliceAt t u lo' hi' mx').run P w = .ok r w := by
  unfold sliceV at e
  split at e
  · rename_i s ht
    obtain ⟨b, e1, e2⟩ := Option.bind_eq_some_iff.1 e
    split at e2
    · rename_i hb
      cases e2
      rw [hx.one_inv.str_inv]
      have hmx : mx = none := by cases mx with | none => rfl | some _ => simp at hb
      subst hmx
      have hmx' : mx' = none := by cases mx' with | none => rfl | some _ => exact h3.elim
      subst hmx'
      have hb2 : b.2.2 = none := by
        unfold boundsV at e1
        obtain ⟨l, _, e1⟩ := Option.bind_eq_some_iff.1 e1
        obtain ⟨h, _, e1⟩ := Option.bind_eq_some_iff.1 e1
        simp at e1
        obtain ⟨_, rfl⟩ := e1; rfl
      obtain ⟨hlh, hr⟩ := run_boundsV (P := P) (cap := s.length) e1 h1 h2 h3 false (by simp [hb2]) (by simp [hb2, hb.2]) w
      refine ⟨_, .str _, ?_⟩
      have hsz : (⟨⟨s⟩⟩ : ByteArray).size = s.length := rfl
      have hex : (⟨⟨s⟩⟩ : ByteArray).extract b.1 b.2.1 = ⟨⟨(s.take b.2.1).drop b.1⟩⟩ := by
        apply ByteArray.ext
        rw [ByteArray.data_extract]
        apply Array.ext'
        simp [List.extract_eq_take_drop, List.drop_take]
      simp [Instr.sliceAt, Instr.slice, run_underlying ht, hsz, hr, hex]
    · cases e2
  · rename_i el id esz sz off len ht
    obtain ⟨b, e1, e2⟩ := Option.bind_eq_some_iff.1 e
    split at e2
    · rename_i hb
      rcases hx.one_inv.sl_inv with ⟨z1, z2, z3, z4, z5⟩ | ⟨cap, a, hbl, z4, g1, g2, g3, g4, g5, g6, g7, g8, g9⟩
      · subst z1; subst z2; subst z3; subst z4
        have hh : b.2.1 = 0 := by omega
        have hlo : b.1 ≤ b.2.1 := by
          unfold boundsV at e1
          obtain ⟨_, _, e1⟩ := Option.bind_eq_some_iff.1 e1
          obtain ⟨_, _, e1⟩ := Option.bind_eq_some_iff.1 e1
          obtain ⟨_, _, e1⟩ := Option.bind_eq_some_iff.1 e1
          split at e1
          · cases e1; assumption
          · cases e1
        have hl : b.1 = 0 := by omega
        have fin : b.2.2.getD 0 = 0 → (Instr.sliceAt t (.slice none 0 0) lo' hi' mx').run P w = .ok (.slice none 0 0) w := by
          intro hm
          obtain ⟨_, hr⟩ := run_boundsV (P := P) (cap := 0) e1 h1 h2 h3 true (by omega) (by omega) w
          rw [hm, hl, hh] at hr
          simp [Instr.sliceAt, Instr.slice, run_underlying ht, hr, run_sizeOf' hb.2]
        split at e2
        · rename_i hm
          cases e2
          refine ⟨_, ?_, fin (by simp [hm])⟩
          rw [hl, hh]; exact .one (.slnil _ _ z5)
        · rename_i m hm
          split at e2
          · rename_i hq
            cases e2
            refine ⟨_, ?_, fin (by simp [hm]; omega)⟩
            rw [hl, hh]; exact .one (.slnil _ _ z5)
          · split at e2
            · rename_i hq
              cases e2
              exact ⟨_, .one (.pure .zslnil), fin (by simp [hm]; omega)⟩
            · cases e2
      subst z4
      subst g2
      have main : ∀ (q : Nat), b.2.2.getD cap = q → q ≤ cap → b.2.1 ≤ q → b.1 ≤ b.2.1 ∧
          (Instr.sliceAt t (.slice (some a) len cap) lo' hi' mx').run P w = .ok (.slice (some (if q = b.1 then a else a.add (b.1 * hbl.esz))) (b.2.1 - b.1) (q - b.1)) w := by
        intro q hq hqc hhq
        obtain ⟨hlh, hr⟩ := run_boundsV (P := P) (cap := cap) e1 h1 h2 h3 true (by omega) (by omega) w
        refine ⟨hlh, ?_⟩
        have hr2 : (Instr.sliceBounds true len cap lo' hi' mx').run P w = .ok (b.1, b.2.1, q) w := by rw [hr, hq]
        simp [Instr.sliceAt, Instr.slice, run_underlying ht, hr2, run_sizeOf' hb.2]
        split <;> simp
      have slR : ∀ (q : Nat), q ≤ cap → b.2.1 ≤ q → b.1 ≤ b.2.1 → sz ≤ off + q →
          VV M (.one (.sl id hbl.esz sz (off + b.1) (b.2.1 - b.1))) (.slice (some (if q = b.1 then a else a.add (b.1 * hbl.esz))) (b.2.1 - b.1) (q - b.1)) := by
        intro q hqc hhq hlh hsq
        refine .one (.sl id sz (off + b.1) (b.2.1 - b.1) (q - b.1) _ hbl g1 ?_ ?_ ?_ (by omega) (by omega) (by omega) (by omega))
        · split
          · exact g3
          · unfold Addr.add; split <;> exact g3
        · split
          · exact g4
          · unfold Addr.add; split <;> first | exact g4 | rfl
        · by_cases hq : q = b.1
          · left; omega
          · right
            rw [if_neg hq]
            have hao : a.off = off * hbl.esz := by rcases g5 with g5 | g5 <;> omega
            unfold Addr.add
            split
            · rename_i h0; rw [Nat.add_mul, h0, Nat.add_zero]; exact hao
            · simp [hao, Nat.add_mul]
      split at e2
      · rename_i hm
        cases e2
        obtain ⟨hlh, hr⟩ := main cap (by simp [hm]) (Nat.le_refl _) (by omega)
        exact ⟨_, slR cap (Nat.le_refl _) (by omega) hlh g7, hr⟩
      · rename_i m hm
        split at e2
        · rename_i hq
          cases e2
          obtain ⟨hlh, hr⟩ := main m (by simp [hm]) (by omega) hq.2
          exact ⟨_, slR m (by omega) hq.2 hlh (by omega), hr⟩
        · split at e2
          · rename_i hq
            cases e2
            obtain ⟨hlh, hr⟩ := main m (by simp [hm]) (by omega) (by omega)
            refine ⟨_, ?_, hr⟩
            rw [show b.2.1 - b.1 = 0 by omega, show m - b.1 = 0 by omega]
            exact .one (.pure (.zsl _))
          · cases e2
    · cases e2
  · rename_i el es ht
    obtain ⟨b, e1, e2⟩ := Option.bind_eq_some_iff.1 e
    split at e2
    · rename_i hb
      rcases hx.one_inv.isl_inv with ⟨z1, zb, z4⟩ | ⟨a, arr, esz, cap, z4, g0, g1, g2, g3, g4⟩
      · subst z1; subst z4
        have hh : b.2.1 = 0 := by have := hb.1; simp at this; exact this
        have hlo : b.1 ≤ b.2.1 := by
          unfold boundsV at e1
          obtain ⟨_, _, e1⟩ := Option.bind_eq_some_iff.1 e1
          obtain ⟨_, _, e1⟩ := Option.bind_eq_some_iff.1 e1
          obtain ⟨_, _, e1⟩ := Option.bind_eq_some_iff.1 e1
          split at e1
          · cases e1; assumption
          · cases e1
        have hl : b.1 = 0 := by omega
        obtain ⟨n, hn⟩ := Option.isSome_iff_exists.1 (show (tsize P el).isSome = true from hb.2)
        have fin : b.2.2.getD 0 = 0 → (Instr.sliceAt t (.slice zb 0 0) lo' hi' mx').run P w = .ok (.slice zb 0 0) w := by
          intro hm
          obtain ⟨_, hr⟩ := run_boundsV (P := P) (cap := 0) e1 h1 h2 h3 true (by omega) (by omega) w
          rw [hm, hl, hh] at hr
          simp only [List.length_nil] at hr
          cases zb <;> simp [Instr.sliceAt, Instr.slice, run_underlying ht, hr, run_sizeOf' hn]
        split at e2
        · rename_i hm
          cases e2
          refine ⟨_, ?_, fin (by simp [hm])⟩
          simp; exact .one (.pure (.islz _))
        · rename_i m hm
          split at e2
          · rename_i hq
            cases e2
            exact ⟨_, .one (.pure (zsl_any _)), fin (by simp [hm]; omega)⟩
          · split at e2
            · rename_i hq
              cases e2
              refine ⟨_, ?_, fin (by have := hq.2; simp at this; simp [hm]; omega)⟩
              simp; exact .one (.pure (.islz _))
            · cases e2
      subst z4
      obtain ⟨n, hn1, hn2⟩ : ∃ n, (es ≠ [] → n = esz) ∧ ∀ w : World, (sizeOf el).run P w = .ok n w := by
        cases es with
        | nil =>
          obtain ⟨n, hn⟩ := Option.isSome_iff_exists.1 (show (tsize P el).isSome = true from hb.2)
          exact ⟨n, by simp, run_sizeOf' hn⟩
        | cons c rest =>
          have : (tsize P el == some c.length) = true := hb.2
          simp only [beq_iff_eq] at this
          refine ⟨c.length, fun _ => by have := g2 0 (by simp); simpa using this, run_sizeOf' this⟩
      have main : ∀ (q : Nat), b.2.2.getD cap = q → q ≤ cap → b.2.1 ≤ q → b.1 ≤ b.2.1 ∧
          (Instr.sliceAt t (.slice (some a) es.length cap) lo' hi' mx').run P w = .ok (.slice (some (if q = b.1 then a else a.add (b.1 * n))) (b.2.1 - b.1) (q - b.1)) w := by
        intro q hq hqc hhq
        obtain ⟨hlh, hr⟩ := run_boundsV (P := P) (cap := cap) e1 h1 h2 h3 true (by omega) (by omega) w
        refine ⟨hlh, ?_⟩
        have hr2 : (Instr.sliceBounds true es.length cap lo' hi' mx').run P w = .ok (b.1, b.2.1, q) w := by rw [hr, hq]
        simp [Instr.sliceAt, Instr.slice, run_underlying ht, hr2, hn2]
        split <;> simp
      have islR : ∀ (q : Nat), q ≤ cap → b.2.1 ≤ q → b.1 ≤ b.2.1 →
          VV M (.one (.isl ((es.take b.2.1).drop b.1))) (.slice (some (if q = b.1 then a else a.add (b.1 * n))) (b.2.1 - b.1) (q - b.1)) := by
        intro q hqc hhq hlh
        have hlen : ((es.take b.2.1).drop b.1).length = b.2.1 - b.1 := by simp; omega
        obtain ⟨a', ha', hsp, hoff⟩ : ∃ a', (if q = b.1 then a else a.add (b.1 * n)) = a' ∧ a'.spot = none ∧ (b.1 < b.2.1 → a'.block = a.block ∧ a'.off = a.off + b.1 * n) := by
          refine ⟨_, rfl, ?_, ?_⟩
          · split
            · exact g0
            · unfold Addr.add; split <;> first | exact g0 | rfl
          · intro h; rw [if_neg (by omega)]; unfold Addr.add; split
            · rename_i h0; exact ⟨rfl, by omega⟩
            · exact ⟨rfl, rfl⟩
        rw [ha', ← hlen]
        refine .one (.pure (.isl _ a' arr esz (q - b.1) hsp ?_ ?_ ?_ (by omega)))
        · by_cases hlt : b.1 < b.2.1
          · right
            have hne : es ≠ [] := by rintro rfl; simp at hb; omega
            rcases g1 with g1 | ⟨g1, g1'⟩
            · exact (hne g1).elim
            · rw [(hoff hlt).1, (hoff hlt).2, hn1 hne, hlen]
              refine ⟨g1, ?_⟩
              have h1 : b.1 * esz + (b.2.1 - b.1) * esz = b.2.1 * esz := by rw [← Nat.add_mul]; congr 1; omega
              have h2 : b.2.1 * esz ≤ es.length * esz := Nat.mul_le_mul_right _ hb.1
              omega
          · left; apply List.eq_nil_of_length_eq_zero; omega
        · intro i hi
          rw [hlen] at hi
          rw [getD_drop_take hi]
          exact g2 _ (by omega)
        · intro i j hi hj
          rw [hlen] at hi
          have hne : es ≠ [] := by rintro rfl; simp at hb; omega
          rw [getD_drop_take hi, (hoff (by omega)).2, hn1 hne]
          have := g3 (b.1 + i) j (by omega) hj
          rwa [Nat.add_mul, ← Nat.add_assoc] at this
      split at e2
      · rename_i hm
        cases e2
        obtain ⟨hlh, hr⟩ := main cap (by simp [hm]) (Nat.le_refl _) (by omega)
        exact ⟨_, islR cap (Nat.le_refl _) (by omega) hlh, hr⟩
      · rename_i m hm
        split at e2
        · rename_i hq
          cases e2
          obtain ⟨hlh, hr⟩ := main m (by simp [hm]) (by omega) (by omega)
          refine ⟨_, ?_, hr⟩
          rw [show b.2.1 - b.1 = 0 by omega, show m - b.1 = 0 by omega]
          exact .one (.pure (.zsl _))
        · split at e2
          · rename_i hq
            cases e2
            obtain ⟨hlh, hr⟩ := main m (by simp [hm]) (by omega) (by omega)
            exact ⟨_, islR m (by omega) (by omega) hlh, hr⟩
          · cases e2
    · cases e2
  · rename_i el ht
    obtain ⟨b, e1, e2⟩ := Option.bind_eq_some_iff.1 e
    split at e2
    · rename_i hb
      cases e2
      rw [hx.one_inv.nils_inv]
      obtain ⟨n, hn⟩ := Option.isSome_iff_exists.1 hb.2.2
      have hm : b.2.2.getD 0 = 0 := by rcases hb.2.1 with h | h <;> simp [h]
      obtain ⟨hlh, hr⟩ := run_boundsV (P := P) (cap := 0) e1 h1 h2 h3 true (by omega) (by omega) w
      have hl : b.1 = 0 := by omega
      rw [hm, hl, hb.1] at hr
      exact ⟨_, .one (.pure .nils), by simp [Instr.sliceAt, Instr.slice, run_underlying ht, hr, run_sizeOf' hn]⟩
    · cases e2
  · rename_i el ht
    obtain ⟨b, e1, e2⟩ := Option.bind_eq_some_iff.1 e
    split at e2
    · rename_i hb
      cases e2
      obtain ⟨n, hn⟩ := Option.isSome_iff_exists.1 hb.2.2
      have hm : b.2.2.getD 0 = 0 := by rcases hb.2.1 with h | h <;> simp [h]
      obtain ⟨hlh, hr⟩ := run_boundsV (P := P) (cap := 0) e1 h1 h2 h3 true (by omega) (by omega) w
      have hl : b.1 = 0 := by omega
      rw [hm, hl, hb.1] at hr
      rcases hx.one_inv.zsl_inv with rfl | ⟨a, rfl⟩
      · exact ⟨_, .one (.pure .zslnil), by simp [Instr.sliceAt, Instr.slice, run_underlying ht, hr, run_sizeOf' hn]⟩
      · exact ⟨_, .one (.pure (.zsl a)), by simp [Instr.sliceAt, Instr.slice, run_underlying ht, hr, run_sizeOf' hn]⟩
    · cases e2
  · cases e
end
end Go.Proofs.YtkbdhjfjbkmkcaaGreat.Abs
