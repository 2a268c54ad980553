/- The abstract machine: each operation does what the machine says. -/
import Derived.Test.YtkbdhjfjbkmkcaaGreatJT9
set_option linter.unusedSimpArgs false
set_option linter.unusedVariables false
namespace Go.Proofs.YtkbdhjfjbkmkcaaGreat.Abs
open Go Go.RowKit

section
variable {P : Program} {B : Nat} {M : Mem} {H : Heap} {w : World}

theorem bytesOf_some : ∀ {es : List (List Leaf)} {s : List UInt8}, bytesOf es = some s → ∃ xs : List Int, es = xs.map (fun n => [Leaf.int .u8 n]) ∧ s = xs.map fun n => UInt8.ofNat n.toNat
  | [], s, e => by cases e; exact ⟨[], rfl, rfl⟩
  | c :: rest, s, e => by
    unfold bytesOf at e
    split at e
    · rename_i h; cases h
    · rename_i n r h
      cases h
      obtain ⟨q, e1, rfl⟩ := Option.map_eq_some_iff.1 e
      obtain ⟨xs, rfl, rfl⟩ := bytesOf_some e1
      exact ⟨n :: xs, rfl, rfl⟩
    · cases e

theorem run_convertV (hI : Inv B M H w) {src dst : TypeId} {x v : V} {u : Value} (e : convertV P H src dst x = some v) (hx : VV M x u) : Left B M H v w ((convert src dst u).run P w) := by
  have same : (∃ r, VV M v r ∧ (convert src dst u).run P w = .ok r w) → Left B M H v w ((convert src dst u).run P w) := fun ⟨r, h1, h2⟩ => ⟨M, w, r, Ext.refl M, hI, h1, Below.refl B w, h2⟩
  unfold convertV at e
  split at e
  · rename_i k k' n h1 h2
    cases e
    rw [hx.one_inv.int_inv] at same ⊢
    refine same ⟨_, .int _ _, ?_⟩
    simp [convert, run_underlying h1, run_underlying h2, Conv.intToInt]
  · rename_i s h1 h2
    cases e
    rw [hx.one_inv.str_inv] at same ⊢
    refine same ⟨_, .str _, ?_⟩
    simp [convert, run_underlying h1, run_underlying h2]
  · rename_i _ el l _ h3 h4
    split at e
    · rename_i he
      obtain ⟨es, e1, e2⟩ := Option.bind_eq_some_iff.1 e
      obtain ⟨s, e3, rfl⟩ := Option.map_eq_some_iff.1 e2
      obtain ⟨xs, rfl, rfl⟩ := bytesOf_some e3
      obtain ⟨base, cap, rfl, g1, g2⟩ := view_sound hI e1 hx.one_inv
      obtain ⟨news, g3, g4⟩ := g2 1 (fun i hi => by
        rw [List.length_map] at hi
        simp [List.getD, hi])
      have hnews : news = xs.map (Value.int .u8) := by
        apply List.ext_getElem
        · rw [g3.1]; simp
        · intro j hj1 hj2
          have hjx : j < xs.length := by simpa using hj2
          have := g3.2.2 j 0 (by simpa using hjx) (by omega)
          have h5 : ((xs.map (fun n => [Leaf.int .u8 n])).getD j []).getD 0 .junk = .int .u8 xs[j] := by simp [List.getD, hjx]
          rw [h5] at this
          have := this.int_inv
          simp [List.getD, hj1] at this
          simp [this]
      refine same ⟨_, .str _, ?_⟩
      cases base with
      | none =>
        have hx0 : xs = [] := by have := g1 rfl; simpa using this
        subst hx0
        rw [run_convert_bytes_nil w src el h3 he _ _ dst h4]; rfl
      | some a =>
        have hl : (loadCells a xs.length).run P w = .ok (xs.map (Value.int .u8)).toArray w := by
          have := run_loadCells_list (P := P) w a (xs.map (Value.int .u8)) (fun j u hj => g4 a rfl j u (by rw [hnews]; exact hj))
          simpa using this
        rw [List.length_map, run_convert_bytes_string w src dst el _ _ _ h3 he h4, run_bytesToString w _ xs.length cap xs hl, foldl_push_bytes]
        simp [ByteArray.empty, ByteArray.emptyWithCapacity]
        rfl
    · cases e
  · rename_i el s h3 h4
    split at e
    · rename_i he
      cases e
      rw [hx.one_inv.str_inv]
      have hr := run_bytes_of_string (P := P) w src dst el ⟨⟨s⟩⟩ h3 h4 he
      generalize hcap : grownCap w (⟨⟨s⟩⟩ : ByteArray).size 0 el = cap at hr
      have hsz : (⟨⟨s⟩⟩ : ByteArray).size = s.length := rfl
      have hle : s.length ≤ cap := by rw [← hcap, ← hsz]; exact grownCap_ge _ _ _ _
      generalize harr : bytesRow ⟨⟨s⟩⟩ cap = arr at hr
      have hasz : arr.size = s.length + (cap - s.length) := by rw [← harr]; simp [bytesRow, hsz]
      have hget : ∀ i, i < s.length → arr.getD i undef = .int .u8 (s.getD i 0).toNat := fun i hi => by
        rw [← harr]
        simp [bytesRow, Array.getD_eq_getD_getElem?, Array.getElem?_append, hi, List.getD]
      obtain ⟨hE, hI'⟩ := hI.drew.allocS arr el (arr.size, arr.size + 1)
      refine ⟨_, _, _, hE, hI', ?_, (Below.refl B w).drew.alloc hI.base _, hr⟩
      have hlen : (s.map fun b => [Leaf.int .u8 b.toNat]).length = s.length := by simp
      refine .one (.pure ?_)
      rw [hsz, ← hlen]
      refine .isl _ ⟨w.heap.size, 0, none⟩ arr 1 cap rfl (.inr ⟨by simp [Mem.addS], by simp [hasz]⟩) (fun i hi => ?_) (fun i j hi hj => ?_) (by rw [hlen]; exact hle)
      · rw [hlen] at hi; simp [List.getD, hi]
      · rw [hlen] at hi
        obtain rfl : j = 0 := by omega
        have h1 : (((s.map fun b => [Leaf.int .u8 b.toNat]).getD i []).getD 0 .junk) = .int .u8 (s.getD i 0).toNat := by simp [List.getD, hi]
        rw [h1]
        have h2 := hget i hi
        simp only [Nat.zero_add, Nat.mul_one, Nat.add_zero]
        rw [h2]
        exact .int _ _
    · cases e
  · cases e

theorem map_args {t : Tmps} {a : Act} (hT : TR M t a.tmps) (args : Array Operand) :
    (args.map a.eval).size = (args.toList.map (ev t)).length ∧ ∀ i, i < (args.toList.map (ev t)).length → VV M ((args.toList.map (ev t)).getD i .junk) ((args.map a.eval).getD i undef) := by
  refine ⟨by simp, fun i hi => ?_⟩
  have hi' : i < args.size := by simpa using hi
  have h1 : (args.toList.map (ev t)).getD i .junk = ev t args[i] := by simp [List.getD, hi']
  have h2 : (args.map a.eval).getD i undef = a.eval args[i] := by simp [Array.getD, hi']
  rw [h1, h2]
  exact ev_V hT _

theorem args_R {t : Tmps} {a : Act} (hT : TR M t a.tmps) (args : Array Operand) (caps : List Leaf) (vs : Array Value) (hn : vs.size = caps.length) (hv : ∀ i, i < caps.length → VR M (caps.getD i .junk) (vs.getD i undef)) :
    VL M (args.toList.map (ev t) ++ caps.map V.one) (args.map a.eval ++ vs) := by
  obtain ⟨h1, h2⟩ := map_args hT args
  refine ⟨by simp [hn], fun i hi => ?_⟩
  have hl : (args.toList.map (ev t)).length = args.size := by simp
  rcases Nat.lt_or_ge i args.size with hlt | hge
  · have e1 : (args.toList.map (ev t) ++ caps.map V.one).getD i .junk = (args.toList.map (ev t)).getD i .junk := by
      simp only [List.getD]; rw [List.getElem?_append_left (by omega)]
    have e2 : (args.map a.eval ++ vs).getD i undef = (args.map a.eval).getD i undef := by
      rw [← getD_toList, ← getD_toList]; simp only [List.getD, Array.toList_append]; rw [List.getElem?_append_left (by simpa using hlt)]
    rw [e1, e2]
    exact h2 i (by omega)
  · have hi2 : i - args.size < caps.length := by simp at hi; omega
    have e1 : (args.toList.map (ev t) ++ caps.map V.one).getD i .junk = .one (caps.getD (i - args.size) .junk) := by
      simp only [List.getD]; rw [List.getElem?_append_right (by omega), hl]; simp [hi2]
    have e2 : (args.map a.eval ++ vs).getD i undef = vs.getD (i - args.size) undef := by
      rw [← getD_toList, ← getD_toList]; simp only [List.getD, Array.toList_append]; rw [List.getElem?_append_right (by simpa using hge)]; simp
    rw [e1, e2]
    exact .one (hv _ hi2)

theorem caps_R {t : Tmps} {a : Act} (hT : TR M t a.tmps) : ∀ (caps : List Operand) (ls : List Leaf), (caps.mapM fun c => match ev t c with | .one l => some l | _ => none) = some ls →
    (caps.map a.eval).length = ls.length ∧ ∀ i, i < ls.length → VR M (ls.getD i .junk) ((caps.map a.eval).getD i undef)
  | [], ls, e => by cases e; exact ⟨rfl, fun i hi => by simp at hi⟩
  | c :: caps, ls, e => by
    rw [List.mapM_cons] at e
    obtain ⟨l, e1, e2⟩ := Option.bind_eq_some_iff.1 e
    obtain ⟨ls', e3, e4⟩ := Option.bind_eq_some_iff.1 e2
    cases e4
    obtain ⟨h1, h2⟩ := caps_R hT caps ls' e3
    split at e1
    · rename_i l' hl
      cases e1
      refine ⟨by simp [← h1], fun i hi => ?_⟩
      cases i with
      | zero => have := ev_V hT c; rw [hl] at this; exact this.one_inv
      | succ i => exact h2 i (by simpa using hi)
    · cases e1

def CallAns (P : Program) (cf : CF) (M : Mem) (H : Heap) (v : V) (H' : Heap) (ws : List Nat) (w : World) (r : Result Next) : Prop :=
  ∃ g args vs, callee P g = true ∧ cf g args H = some (v, H', ws) ∧ VL M args vs ∧ r = .ok (.enter g vs) w

theorem Good.left {M : Mem} {H' : Heap} {v : V} {w : World} {s : Sem Value} (h : Left B M H' v w (s.run P w)) : Good B M H' v w ((do pure (.value (← s)) : Sem Next).run P w) := by
  obtain ⟨M', w', u, h1, h2, h3, h4, h5⟩ := h
  exact ⟨M', w', u, h1, h2, h3, h4, .inl (by simp [h5])⟩

theorem op_sound {cf : CF} {slot : Option Nat} {t : Tmps} {a : Act} {o : Oper} {v : V} {H' : Heap} {ws : List Nat} (hI : Inv B M H w) (hT : TR M t a.tmps) (e : absOp P cf slot t H o = some (v, H', ws)) :
    Good B M H' v w ((execOp a.eval o).run P w) ∨ CallAns P cf M H v H' ws w ((execOp a.eval o).run P w) := by
  have pureG : ∀ {x : Option V} (s : Sem Value), pureR H x = some (v, H', ws) → (∀ v, x = some v → ∃ r, VV M v r ∧ s.run P w = .ok r w) →
      execOp a.eval o = (do pure (.value (← s))) → Good B M H' v w ((execOp a.eval o).run P w) := by
    intro x s h1 h2 h3
    obtain ⟨h4, rfl, _⟩ := pureR_some h1
    obtain ⟨r, h5, h6⟩ := h2 v h4
    refine Good.same hI h5 ?_
    rw [h3]; simp [h6]
  unfold absOp at e
  split at e
  · rename_i x ho
    left
    exact pureG (pure (a.eval x)) e (fun v hv => by cases hv; exact ⟨_, ev_V hT x, rfl⟩) (by simp [execOp, ho])
  · rename_i x ho
    left
    exact pureG (pure (a.eval x)) e (fun v hv => by cases hv; exact ⟨_, ev_V hT x, rfl⟩) (by simp [execOp, ho])
  · rename_i c x y ho
    left
    have hc := ev_V hT c
    split at e
    · rename_i hb
      rw [hb] at hc
      exact pureG (pure (a.eval x)) e (fun v hv => by cases hv; exact ⟨_, ev_V hT x, rfl⟩) (by simp [execOp, ho, hc.one_inv.bool_inv, asBool])
    · rename_i hb
      rw [hb] at hc
      exact pureG (pure (a.eval y)) e (fun v hv => by cases hv; exact ⟨_, ev_V hT y, rfl⟩) (by simp [execOp, ho, hc.one_inv.bool_inv, asBool])
    · cases e
  · rename_i el ho
    left
    obtain ⟨z, e1, e2⟩ := Option.bind_eq_some_iff.1 e
    obtain ⟨i, zv, hi, hz, hzs, hzl, hzR⟩ := tzero_some e1
    obtain ⟨id, M', rfl, hx, hI', hh⟩ := alloc_sound (cap := 1) hI e2 (arr := zv.cells) el (by rw [hzs, hzl, Nat.one_mul]) (Nat.le_refl _)
      (fun k hk => by have : k = 0 := by simpa using hk
                      subst this; rfl)
      (fun k j hk hj => by
        have : k = 0 := by simpa using hk
        subst this
        rw [Nat.zero_mul, Nat.zero_add, ← getD_toList]
        exact (hzR M).2 j hj)
    refine ⟨M', _, .pointer (some ⟨w.heap.size, 0, none⟩), hx, hI', ?_, (Below.refl B w).alloc hI.base _, .inl ?_⟩
    · have := VR.ptr id 1 0 0 _ hh
      exact .one (by simpa using this)
    · simp [execOp, ho, Instr.alloc, run_zeroValue' hi hz, newVar, newRow]
  · rename_i el x ho
    left
    have hx := ev_V hT x
    have main : ∀ cs : List Leaf, CsR M cs (a.eval x).cells.toList → allocR slot H (.row cs.length [cs]) (fun id => .one (.ptr id 1 0 0)) = some (v, H', ws) → Good B M H' v w ((execOp a.eval o).run P w) := by
      intro cs hcs e2
      obtain ⟨id, M', rfl, hx, hI', hh⟩ := alloc_sound (cap := 1) hI e2 (arr := (a.eval x).cells) el (by have := hcs.1; simp at this; omega) (Nat.le_refl _)
        (fun k hk => by have : k = 0 := by simpa using hk
                        subst this; rfl)
        (fun k j hk hj => by
          have : k = 0 := by simpa using hk
          subst this
          rw [Nat.zero_mul, Nat.zero_add, ← getD_toList]
          exact hcs.2 j hj)
      refine ⟨M', _, .pointer (some ⟨w.heap.size, 0, none⟩), hx, hI', ?_, (Below.refl B w).alloc hI.base _, .inl ?_⟩
      · have := VR.ptr id 1 0 0 _ hh
        exact .one (by simpa using this)
      · simp [execOp, ho, Instr.box, newVar, newRow]
    split at e
    · rename_i l hl
      rw [hl] at hx
      exact main [l] (hx.cellsR (by simp) (by simp)) e
    · rename_i cs hl
      rw [hl] at hx
      exact main cs (hx.cellsR (by simp) (by simp)) e
    · cases e
  · rename_i ty parts ho
    left
    obtain ⟨hl, hp⟩ := parts_R (M := M) hT parts
    exact pureG (Instr.build ty (parts.map fun (i, x) => (i, a.eval x))) e (fun v hv => run_buildV hv hl hp w) (by simp [execOp, ho])
  · rename_i ty len parts ho
    left
    obtain ⟨hl, hp⟩ := parts_R (M := M) hT parts
    have := Good.left (run_buildSliceV hI e hl hp)
    simpa [execOp, ho] using this
  · rename_i ty x ho
    left
    have hx := ev_V hT x
    split at e
    · rename_i l hl
      rw [hl] at hx
      obtain ⟨g, e1, e2⟩ := Option.bind_eq_some_iff.1 e
      obtain ⟨n, e3, e4⟩ := Option.bind_eq_some_iff.1 e2
      obtain ⟨cs, e5, e6⟩ := Option.bind_eq_some_iff.1 e4
      obtain ⟨ad, vs, hv, k1, k2, k3⟩ := rd_sound hI e5 hx.one_inv
      refine pureG (Instr.loadAt ty (a.eval x)) e6 (fun v hv' => ?_) (by simp [execOp, ho])
      unfold mkV at hv'
      have hvl : vs.length = n := by rw [k2.1, k1]
      have hld : (loadCells ad n).run P w = .ok vs.toArray w := by
        have := run_loadCells_list (P := P) w ad vs k3
        rwa [hvl] at this
      cases g with
      | true =>
        simp only [if_true, Option.some.injEq] at hv'
        subst hv'
        exact ⟨.agg vs.toArray, .agg (by simpa using k2), by simp [Instr.loadAt, hv, Instr.sureAddr, loadVar, run_isAgg e1, run_sizeOf' e3, hld]⟩
      | false =>
        simp only [Bool.false_eq_true, if_false] at hv'
        split at hv'
        · rename_i l'
          cases hv'
          have h1 : vs.length = 1 := k2.1
          obtain ⟨u, rfl⟩ : ∃ u, vs = [u] := by
            match vs, h1 with
            | [u], _ => exact ⟨u, rfl⟩
          have hc := k3 0 u rfl
          rw [Addr.add_zero'] at hc
          exact ⟨u, .one (by have := k2.2 0 (by simp); simpa using this), by simp [Instr.loadAt, hv, Instr.sureAddr, loadVar, run_isAgg e1, hc]⟩
        · cases hv'
    · cases e
  · rename_i ty x y ho
    left
    have hx := ev_V hT x
    have hy := ev_V hT y
    split at e
    · rename_i l hl
      rw [hl] at hx
      obtain ⟨n, e3, e4⟩ := Option.bind_eq_some_iff.1 e
      have main : ∀ new : List Leaf, n = new.length → CsR M new (a.eval y).cells.toList → (wr H l new).map (fun r => (V.junk, r.1, r.2)) = some (v, H', ws) → Good B M H' v w ((execOp a.eval o).run P w) := by
        intro new hn hcs e5
        obtain ⟨r, e6, e7⟩ := Option.map_eq_some_iff.1 e5
        cases e7
        obtain ⟨M', w', ad, hv, h1, h2, h3, h4⟩ := wr_sound hI e6 hx.one_inv hcs
        have hsz : (a.eval y).cells.size = n := by have := hcs.1; simp at this; omega
        refine ⟨M', w', undef, h1, h2, .junk _, h3, .inr ⟨?_, rfl⟩⟩
        simp [execOp, ho, Instr.storeAt, hv, Instr.sureAddr, storeVar, run_sizeOf' e3, hsz]
        rw [h4]; rfl
      split at e4
      · rename_i q hq
        rw [hq] at hy
        split at e4
        · rename_i hn
          exact main [q] (by simpa using hn) (hy.cellsR (by simp) (by simp)) e4
        · cases e4
      · rename_i cs hq
        rw [hq] at hy
        split at e4
        · rename_i hn
          exact main cs hn (hy.cellsR (by simp) (by simp)) e4
        · cases e4
      · cases e4
    · cases e
  · rename_i x ho
    left
    have hx := ev_V hT x
    split at e
    · rename_i h; rw [h] at hx
      obtain ⟨hb, g1, g2⟩ := hx.one_inv.ptr_inv
      exact pureG (pure (a.eval x)) e (fun v hv => by cases hv; exact ⟨_, hx, rfl⟩) (by simp [execOp, ho, g2])
    · rename_i h; rw [h] at hx
      obtain ⟨_, _, _, g2, _⟩ := hx.one_inv.iptr_inv
      exact pureG (pure (a.eval x)) e (fun v hv => by cases hv; exact ⟨_, hx, rfl⟩) (by simp [execOp, ho, g2])
    · rename_i h; rw [h] at hx
      obtain ⟨_, g2, _⟩ := hx.one_inv.fn_inv
      exact pureG (pure (a.eval x)) e (fun v hv => by cases hv; exact ⟨_, hx, rfl⟩) (by simp [execOp, ho, g2])
    · cases e
  · rename_i op ty x y ty' ho
    left
    exact pureG (do eqGuard op ty x y (a.eval x) (a.eval y); binOp op ty (a.eval x) (a.eval y)) e (fun v hv => run_binV hv (ev_V hT x) (ev_V hT y) x y w) (by simp [execOp, ho])
  · rename_i op ty x ho
    left
    exact pureG (Op.unary op (a.eval x)) e (fun v hv => run_unV hv (ev_V hT x) w) (by simp [execOp, ho])
  · rename_i s d x ho
    left
    obtain ⟨h4, rfl, _⟩ := pureR_some e
    have := Good.left (run_convertV hI h4 (ev_V hT x))
    simpa [execOp, ho] using this
  · rename_i f first caps ho
    left
    split at e
    · rename_i hf
      obtain ⟨ls, e1, e2⟩ := Option.bind_eq_some_iff.1 e
      obtain ⟨h1, h2⟩ := caps_R hT caps.toList ls e1
      have hf0 : first = #[] := Array.eq_empty_of_size_eq_zero hf
      refine pureG (Instr.makeFunc (.func f) (first.map a.eval) (caps.map a.eval)) e2 (fun v hv => ?_) (by simp [execOp, ho])
      cases hv
      refine ⟨_, .one (.fn f ls (caps.map a.eval) (by simpa using h1) (fun i hi => ?_)), by simp [Instr.makeFunc, hf0]⟩
      have := h2 i hi
      rwa [← Array.toList_map, getD_toList] at this
    · cases e
  · rename_i ty ho
    left
    unfold allocR at e
    obtain ⟨r, e1, e2⟩ := Option.map_eq_some_iff.1 e
    cases e2
    obtain ⟨hx, hI'⟩ := hI.allocM (ck := 0) e1
    refine ⟨_, _, .map (some w.heap.size), hx, hI', ?_, (Below.refl B w).alloc hI.base _, .inl ?_⟩
    · exact .one (.map _ _ (Mem.addM_same _ _ _))
    · simp [execOp, ho, Instr.makeMap, newObj, Sem.run, Result.andThen]
  · rename_i ty m k ok ho
    left
    exact pureG (Instr.lookup ty (a.eval m) (a.eval k) ok) e (fun v hv => run_lookupV hI hv (ev_V hT m) (ev_V hT k)) (by simp [execOp, ho])
  · rename_i ty m k x ho
    left
    obtain ⟨rfl, w', h1, h2, h3⟩ := run_mapUpdV hI e (ev_V hT m) (ev_V hT k) (ev_V hT x)
    refine ⟨M, w', undef, Ext.refl M, h1, .junk _, h2, .inr ⟨?_, rfl⟩⟩
    simp [execOp, ho, h3]
  · rename_i ty m k ho
    left
    obtain ⟨u, w', h0, h1, h2, h3⟩ := run_mapEntV hI e (ev_V hT m) (ev_V hT k)
    refine ⟨M, w', u, Ext.refl M, h1, h0, h2, .inl ?_⟩
    simp [execOp, ho, h3]
  · rename_i ty m b x ho
    left
    obtain ⟨rfl, w', h1, h2, h3⟩ := run_entStoV (P := P) (t := ty) hI e (ev_V hT m) (ev_V hT b) (ev_V hT x)
    refine ⟨M, w', undef, Ext.refl M, h1, .junk _, h2, .inr ⟨?_, rfl⟩⟩
    simp [execOp, ho, h3]
  · rename_i ty l c ho
    left
    have := Good.left (run_makeSliceV hI e (ev_V hT l) (ev_V hT c))
    simpa [execOp, ho] using this
  · rename_i ty x lo hi mx ho
    left
    exact pureG (Instr.sliceAt ty (a.eval x) (lo.map a.eval) (hi.map a.eval) (mx.map a.eval)) e (fun v hv => run_sliceV hv (ev_V hT x) (OV_map hT lo) (OV_map hT hi) (OV_map hT mx) w) (by simp [execOp, ho])
  · rename_i s x f ho
    left
    exact pureG (Instr.fieldAt s (a.eval x) f) e (fun v hv => run_fieldAddrV hv (ev_V hT x) w) (by simp [execOp, ho])
  · rename_i s x f ho
    left
    have hx := ev_V hT x
    split at e
    · rename_i cs hc
      rw [hc] at hx
      exact pureG (Instr.field s (a.eval x) f) e (fun v hv => run_fieldV hv hx w) (by simp [execOp, ho])
    · cases e
  · rename_i ty x i ho
    left
    exact pureG (Instr.indexAt ty (a.eval x) (a.eval i)) e (fun v hv => run_indexAddrV hv (ev_V hT x) (ev_V hT i) w) (by simp [execOp, ho])
  · rename_i ty x i ho
    left
    exact pureG (Instr.index ty (a.eval x) (a.eval i)) e (fun v hv => run_indexV hv (ev_V hT x) (ev_V hT i) w) (by simp [execOp, ho])
  · rename_i x i ho
    left
    have hx := ev_V hT x
    split at e
    · rename_i vs hc
      rw [hc] at hx
      refine pureG (Instr.extract (a.eval x) i) e (fun v hv => ?_) (by simp [execOp, ho])
      obtain ⟨arr, h1, h2, h3⟩ := hx.tup_inv
      have hi : i < vs.length := (List.getElem?_eq_some_iff.1 hv).1
      have h4 := h3 i hi
      refine ⟨_, by simpa [List.getD, hv] using h4, ?_⟩
      simp [Instr.extract, h1, h2, hi, Array.getD]
    · cases e
  · rename_i b args tys ho
    left
    split at e
    · rename_i x ty h1 h2
      have ha : args = #[x] := Array.toList_inj.1 h1
      have ht : tys = #[ty] := Array.toList_inj.1 h2
      subst ha; subst ht
      have hx := ev_V hT x
      split at e
      · rename_i l hl
        rw [hl] at hx
        split at e
        · rename_i hok
          refine pureG (Builtin.len_ #[ty] o.type #[a.eval x]) e (fun v hv => ?_) (by simp [execOp, ho, resolve, invoke, builtin])
          obtain ⟨n, e1, rfl⟩ := Option.map_eq_some_iff.1 hv
          exact ⟨_, .int _ _, run_lenL hI e1 hx.one_inv hok⟩
        · cases e
      · cases e
    · rename_i s x ty tx h1 h2
      have ha : args = #[s, x] := Array.toList_inj.1 h1
      have ht : tys = #[ty, tx] := Array.toList_inj.1 h2
      subst ha; subst ht
      have := Good.left (run_appendV (ty := o.type) hI e (ev_V hT s) (ev_V hT x))
      simpa [execOp, ho, resolve, invoke, builtin] using this
    · rename_i s x ty tx h1 h2
      have ha : args = #[s, x] := Array.toList_inj.1 h1
      have ht : tys = #[ty, tx] := Array.toList_inj.1 h2
      subst ha; subst ht
      have := Good.left (run_copyV (ty := o.type) hI e (ev_V hT s) (ev_V hT x))
      simpa [execOp, ho, resolve, invoke, builtin] using this
    · rename_i m k ty tx h1 h2
      have ha : args = #[m, k] := Array.toList_inj.1 h1
      have ht : tys = #[ty, tx] := Array.toList_inj.1 h2
      subst ha; subst ht
      obtain ⟨rfl, w', g1, g2, g3⟩ := run_delV (t' := tx) (ty := o.type) hI e (ev_V hT m) (ev_V hT k)
      refine ⟨M, w', .tuple #[], Ext.refl M, g1, .tup rfl (fun i hi => by simp at hi), g2, .inl ?_⟩
      simp [execOp, ho, resolve, invoke, builtin, g3]
    · rename_i x y h1
      have ha : args = #[x, y] := Array.toList_inj.1 h1
      subst ha
      have hx := ev_V hT x
      have hy := ev_V hT y
      refine pureG (Builtin.max_ tys o.type #[a.eval x, a.eval y]) e (fun v hv => ?_) (by simp [execOp, ho, resolve, invoke, builtin])
      unfold maxV at hv
      split at hv
      · rename_i k n k' m e1 e2
        cases hv
        rw [e1] at hx
        rw [e2] at hy
        rw [hx.one_inv.int_inv, hy.one_inv.int_inv]
        exact ⟨_, .int _ _, by simp [Builtin.max_, Builtin.max2]⟩
      · cases hv
    · cases e
  · rename_i f args tys ho
    have hf := ev_V hT f
    split at e
    · rename_i g caps hg
      rw [hg] at hf
      split at e
      · rename_i hc
        right
        obtain ⟨vs, h1, h2, h3⟩ := hf.one_inv.fn_inv
        refine ⟨g, _, args.map a.eval ++ vs, hc, e, args_R hT args caps vs h2 h3, ?_⟩
        unfold callee at hc
        split at hc
        · rename_i fn hfn
          simp only [Bool.and_eq_true, bne_iff_ne, ne_eq] at hc
          have hb : fn.body.isNone = false := by cases h : fn.body <;> simp [h] at hc ⊢
          have hb' : fn.body ≠ none := by intro h; simp [h] at hb
          simp [execOp, ho, resolve, h1, Deferred.ofValue, invoke, callFunc, hfn, hc.2, hb, hb']
        · cases hc
      · cases e
    · cases e
  · cases e
end
end Go.Proofs.YtkbdhjfjbkmkcaaGreat.Abs
