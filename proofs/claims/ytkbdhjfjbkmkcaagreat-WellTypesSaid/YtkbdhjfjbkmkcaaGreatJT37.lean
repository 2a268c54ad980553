/- The abstract machine: what slices.Backward makes is an iterator, as the machine takes it to be. -/
import Derived.Test.YtkbdhjfjbkmkcaaGreatJT32
set_option linter.unusedSimpArgs false
set_option linter.unusedVariables false
namespace Go.Proofs.YtkbdhjfjbkmkcaaGreat.Abs
open Go Go.RowKit

def looks : Op → Bool
  | .move _ | .assign _ | .load .. | .binOp .. | .unOp .. | .indexAddr .. => true
  | .call { callee := .builtin .len, .. } => true
  | _ => false

section
variable {P : Program} {B : Nat} {M : Mem} {H : Heap} {w : World}

theorem looks_sound {cf : CF} {slot : Option Nat} {t : Tmps} {a : Act} {o : Oper} {v : V} {H' : Heap} {ws : List Nat} (hs : looks o.op = true) (hI : Inv B M H w) (hT : TR M t a.tmps) (e : absOp P cf slot t H o = some (v, H', ws)) :
    ∃ u, VV M v u ∧ (execOp a.eval o).run P w = .ok (.value u) w ∧ H' = H ∧ ws = [] := by
  have pureG : ∀ {x : Option V} (s : Sem Value), pureR H x = some (v, H', ws) → (∀ v, x = some v → ∃ r, VV M v r ∧ s.run P w = .ok r w) →
      execOp a.eval o = (do pure (.value (← s))) → ∃ u, VV M v u ∧ (execOp a.eval o).run P w = .ok (.value u) w ∧ H' = H ∧ ws = [] := by
    intro x s h1 h2 h3
    obtain ⟨h4, rfl, h5⟩ := pureR_some h1
    obtain ⟨r, h6, h7⟩ := h2 v h4
    exact ⟨r, h6, by rw [h3]; simp [h7], rfl, h5⟩
  obtain ⟨dst, op, ty0, pos, after, guard⟩ := o
  cases op <;> simp only [looks, Bool.false_eq_true] at hs
  case move x => exact pureG (pure (a.eval x)) (x := some (ev t x)) e (fun v hv => by cases hv; exact ⟨_, ev_V hT x, rfl⟩) (by simp [execOp])
  case assign x => exact pureG (pure (a.eval x)) (x := some (ev t x)) e (fun v hv => by cases hv; exact ⟨_, ev_V hT x, rfl⟩) (by simp [execOp])
  case binOp op ty x y ty' =>
    exact pureG (do eqGuard op ty x y (a.eval x) (a.eval y); Go.binOp op ty (a.eval x) (a.eval y)) e (fun v hv => run_binV hv (ev_V hT x) (ev_V hT y) x y w) (by simp [execOp])
  case unOp op ty x => exact pureG (Op.unary op (a.eval x)) e (fun v hv => run_unV hv (ev_V hT x) w) (by simp [execOp])
  case indexAddr ty x i => exact pureG (Instr.indexAt ty (a.eval x) (a.eval i)) e (fun v hv => run_indexAddrV hv (ev_V hT x) (ev_V hT i) w) (by simp [execOp])
  case load ty x =>
    have hx := ev_V hT x
    simp only [absOp] at e
    split at e
    · rename_i l hl
      rw [hl] at hx
      obtain ⟨g, e1, e2⟩ := Option.bind_eq_some_iff.1 e
      obtain ⟨n, e3, e4⟩ := Option.bind_eq_some_iff.1 e2
      obtain ⟨cs, e5, e6⟩ := Option.bind_eq_some_iff.1 e4
      obtain ⟨ad, vs, hv, k1, k2, k3⟩ := rd_sound hI e5 hx.one_inv
      refine pureG (Instr.loadAt ty (a.eval x)) e6 (fun v hv' => ?_) (by simp [execOp])
      unfold mkV at hv'
      have hvl : vs.length = n := by rw [k2.1, k1]
      have hld : (loadCells ad n).run P w = .ok vs.toArray w := by
        have := run_loadCells_list (P := P) w ad vs k3
        rwa [hvl] at this
      cases g with
      | true =>
        simp only [if_true, Option.some.injEq] at hv'
        subst hv'
        exact ⟨.agg vs.toArray, .agg (by simpa using k2), by simp [Instr.loadAt, hv, Instr.sureAddr, loadVar, run_isAgg e1, run_sizeOf' e3, hld]⟩
      | false =>
        simp only [Bool.false_eq_true, if_false] at hv'
        split at hv'
        · rename_i l'
          cases hv'
          have h1 : vs.length = 1 := k2.1
          obtain ⟨u, rfl⟩ : ∃ u, vs = [u] := by
            match vs, h1 with
            | [u], _ => exact ⟨u, rfl⟩
          have hc := k3 0 u rfl
          rw [Addr.add_zero'] at hc
          exact ⟨u, .one (by have := k2.2 0 (by simp); simpa using this), by simp [Instr.loadAt, hv, Instr.sureAddr, loadVar, run_isAgg e1, hc]⟩
        · cases hv'
    · cases e
  case call c =>
    obtain ⟨callee, args, tys⟩ := c
    cases callee with
    | value f => simp at hs
    | invoke r m => simp at hs
    | builtin bb =>
      cases bb with
      | len =>
        simp only [absOp] at e
        split at e
        · rename_i x ty h0 h1 h2
          have ha : args = #[x] := Array.toList_inj.1 h1
          have ht : tys = #[ty] := Array.toList_inj.1 h2
          subst ha; subst ht
          have hx := ev_V hT x
          split at e
          · rename_i l hl
            rw [hl] at hx
            split at e
            · rename_i hok
              refine pureG (Builtin.len_ #[ty] ty0 #[a.eval x]) e (fun v hv => ?_) (by simp [execOp, resolve, invoke, builtin])
              obtain ⟨n, e1, rfl⟩ := Option.map_eq_some_iff.1 hv
              exact ⟨_, .int _ _, run_lenL hI e1 hx.one_inv hok⟩
            · cases e
          · cases e
        all_goals first | (cases e; done) | (exfalso; simp_all; done)
      | _ => simp at hs

variable {ds : List Deferred} {ro : Option Nat} {n N : Nat} {cf : CF}

theorem looksOps {ops : Array Oper} {Q : Exit → Act → World → Prop} {rest : List Nat} : ∀ (l : List Oper) (k : Nat) (s s' : St) (a : Act), (∀ o, o ∈ l → looks o.op = true) → (∀ j o, l[j]? = some o → ops[k + j]? = some o) → At B ds M N s a w →
    absOps P cf N ops l s = some s' → (∀ a', At B ds M N s' a' w → Keep l a a' → wpOpsIn (FO ro) n P ops Q rest a' w) → wpOpsIn (FO ro) n P ops Q (List.range' k l.length ++ rest) a w
  | [], k, s, s', a, hs, hl, hA, e, hQ => by cases e; exact hQ a hA ⟨fun _ _ => rfl, rfl⟩
  | o :: l, k, s, s', a, hs, hl, hA, e, hQ => by
    have ho : ops[k]? = some o := by simpa using hl 0 o rfl
    have hl' : ∀ j o, l[j]? = some o → ops[k + 1 + j]? = some o := fun j o' h => by
      have := hl (j + 1) o' (by simpa using h)
      rwa [show k + (j + 1) = k + 1 + j by omega] at this
    rw [List.length_cons, List.range'_succ, List.cons_append]
    simp only [wpOpsIn, ho]
    unfold absOps at e
    split at e
    · cases e
    · rename_i hw
      rw [wanted_ok hA.tr hw]
      simp only [Bool.false_eq_true, if_false]
      obtain ⟨h1, h2, h3⟩ := TR_put hA.tr hA.size o.dst (v := .tup []) (u := undef) (.tup rfl (fun i hi => by simp at hi))
      exact ⟨fun _ _ => trivial, looksOps l (k + 1) { s with tmps := setD N s.tmps o.dst (.tup []) } s' _ (fun x hx => hs x (List.mem_cons_of_mem _ hx)) hl' ⟨hA.inv, h1, by rw [h3]; exact hA.defers, h2⟩ e fun a' h k => hQ a' h k.cons⟩
    · rename_i hw
      rw [wanted_ok hA.tr hw]
      simp only [if_true]
      split at e
      · cases e
      · rename_i v H' ws hop
        obtain ⟨u, k1, k2, rfl, rfl⟩ := looks_sound (hs o (List.mem_cons_self ..)) hA.inv hA.tr hop
        obtain ⟨h1, h2, h3⟩ := TR_put hA.tr hA.size o.dst k1
        unfold Oper.wpIn
        refine ⟨fun _ _ => trivial, ?_⟩
        rw [Oper.semAt_eq _ _ _ (absOp_defer hop), k2]
        exact looksOps l (k + 1) ⟨setD N s.tmps o.dst v, s.heap, s.ws ++ []⟩ s' _ (fun x hx => hs x (List.mem_cons_of_mem _ hx)) hl' ⟨hA.inv, h1, by rw [h3]; exact hA.defers, h2⟩ e fun a' h k => hQ a' h k.cons
end

/-! The closure that slices.Backward makes. -/

def bwdOps0 (b : BW) : Array Oper := #[⟨some 4, .load b.S (.tmp 1), b.S, "iter.go:28", #[], none⟩,
  ⟨some 5, .call { callee := .builtin .len, args := #[.tmp 4], argTypes := #[b.S] }, b.I, "iter.go:28", #[{ on := 0, ground := .data }], none⟩,
  ⟨some 6, .binOp .sub b.I (.tmp 5) (.const (.int .i64 1)) b.I, b.I, "iter.go:28", #[{ on := 1, ground := .data }], none⟩,
  ⟨some 3, .assign (.tmp 6), b.I, "iter.go:28", #[{ on := 2, ground := .data }, { on := 0, ground := .phase }, { on := 1, ground := .phase }, { on := 2, ground := .phase }], none⟩]
def bwdOps1 (b : BW) : Array Oper := #[⟨some 7, .move (.tmp 3), b.I, "iter.go:28", #[], none⟩,
  ⟨some 8, .binOp .geq b.I (.tmp 7) (.const (.int .i64 0)) b.I, b.B, "iter.go:28", #[{ on := 0, ground := .data }], none⟩]
def bwdOps2 (b : BW) : Array Oper := #[⟨some 9, .move (.tmp 3), b.I, "iter.go:28", #[], none⟩,
  ⟨some 10, .binOp .sub b.I (.tmp 9) (.const (.int .i64 1)) b.I, b.I, "iter.go:28", #[{ on := 0, ground := .data }], none⟩,
  ⟨some 3, .assign (.tmp 10), b.I, "iter.go:28", #[{ on := 1, ground := .data }, { on := 0, ground := .phase }, { on := 1, ground := .phase }], none⟩]
def bwdOpF (b : BW) : Oper := ⟨some 11, .move (.tmp 0), b.F, "iter.go:29", #[], none⟩
def bwdOpsA (b : BW) : List Oper := [⟨some 12, .move (.tmp 3), b.I, "iter.go:29", #[], none⟩,
  ⟨some 13, .load b.S (.tmp 1), b.S, "iter.go:29", #[], none⟩,
  ⟨some 14, .move (.tmp 3), b.I, "iter.go:29", #[], none⟩,
  ⟨some 15, .indexAddr b.S (.tmp 13) (.tmp 14), 0, "iter.go:29", #[{ on := 2, ground := .data }, { on := 3, ground := .data }], none⟩,
  ⟨some 16, .load b.T (.tmp 15), b.T, "iter.go:29", #[{ on := 4, ground := .data }], none⟩]
def bwdOpY (b : BW) : Oper := ⟨some 17, .call { callee := .value (.tmp 11), args := #[.tmp 12, .tmp 16], argTypes := #[b.I, b.T] }, b.B, "iter.go:29", #[{ on := 0, ground := .data }, { on := 1, ground := .data }, { on := 5, ground := .data }], none⟩
def bwdOpN (b : BW) : Oper := ⟨some 18, .unOp .not b.B (.tmp 17), b.B, "iter.go:29", #[{ on := 6, ground := .data }], none⟩
def bwdOps3 (b : BW) : Array Oper := (bwdOpF b :: (bwdOpsA b ++ [bwdOpY b, bwdOpN b])).toArray
def bwdBody (b : BW) : Code := .seq (.region 0 (bwdOps0 b) false) (.block 0 (.loop (.seq (.seq (.region 1 (bwdOps1 b) false) (.cond (.tmp 8) .skip (.exit 0)))
  (.seq (.block 1 (.seq (.region 3 (bwdOps3 b) false) (.cond (.tmp 18) .ret .skip))) (.region 2 (bwdOps2 b) false)))))

theorem bwdUp_rows {P : Program} {T : TypeId} {g : Bool} : ∀ (es : List (List Leaf)) (i : Nat) (r : List (List V)), bwdUp P T g i es = some r → r.length = es.length ∧
    ∀ (j : Nat) (cs : List Leaf), es[j]? = some cs → tsize P T = some cs.length ∧ ∃ v, mkV g cs = some v ∧ r[j]? = some [.one (.int .i64 ((i + j : Nat) : Int)), v]
  | [], i, r, e => by cases e; exact ⟨rfl, fun j cs h => by simp at h⟩
  | c :: es, i, r, e => by
    unfold bwdUp at e
    split at e
    · rename_i hs
      split at e
      · rename_i v hv
        split at e
        · rename_i r' hr
          cases e
          obtain ⟨h1, h2⟩ := bwdUp_rows es (i + 1) r' hr
          refine ⟨by simp [h1], fun j cs h => ?_⟩
          cases j with
          | zero =>
            simp only [List.getElem?_cons_zero, Option.some.injEq] at h
            subst h
            exact ⟨hs, v, hv, rfl⟩
          | succ j =>
            have := h2 j cs (by simpa using h)
            rw [show i + 1 + j = i + (j + 1) by omega] at this
            exact this
        · cases e
      · cases e
    · cases e

theorem TR_two {M : Mem} {t : Tmps} {a : Array Value} (h : TR M t a) {v1 v3 : V} (h1 : tget t 1 = v1) (h3 : tget t 3 = v3) : TR M [(3, v3), (1, v1)] a := fun i => by
  rw [tget_cons]
  split
  · rename_i e; subst e; rw [← h3]; exact h 3
  · rw [tget_cons]
    split
    · rename_i e; subst e; rw [← h1]; exact h 1
    · exact .junk _

def bwdC : Cfg := ⟨fun _ => 0, fun _ => [], fun _ => false, fun _ _ => none⟩

section
variable {P : Program} {b : BW} {es : List (List Leaf)} {S : Stab}
theorem VL_two {M : Mem} {v1 v2 : V} {u1 u2 : Value} (h1 : VV M v1 u1) (h2 : VV M v2 u2) : VL M [v1, v2] #[u1, u2] := by
  refine ⟨rfl, fun i hi => ?_⟩
  match i with
  | 0 => exact h1
  | 1 => exact h2
  | i + 2 => simp at hi; omega

def BwdAt (es : List (List Leaf)) (S : Stab) (l : Nat) (i : Int) (a : Act) (w : World) : Prop :=
  At w.heap.size [] (memS S) 19 ⟨[(3, .one (.int .i64 i)), (1, .one (.iptr [.isl es] 0))], [], []⟩ a w ∧ a.tmps.getD 0 undef = .func (.yield l) #[] #[]

theorem bwd_stops {fn : Func} (hfn : P.funcs[b.gf]? = some fn) (hbody : fn.body = some (bwdBody b)) (hnt : fn.ntmps = 19) (hrs : fn.results = #[])
    (hS : P.underlying b.S = some (.slice b.T)) (hSa : tagg P b.S = some false) (hSs : tsize P b.S = some 1)
    {xs : List (List V)} (e : itRows P b es = some xs) {lb : Array Value} (hlb : VL (memS S) [.one (.iptr [.isl es] 0)] lb) : ItStops P b.gf lb S xs := by
  obtain ⟨hn, g, rows, hg, hrows, rfl⟩ : es.length < 4611686018427387904 ∧ ∃ g rows, tagg P b.T = some g ∧ bwdUp P b.T g 0 es = some rows ∧ xs = rows.reverse := by
    unfold itRows at e
    split at e
    · rename_i h
      split at e
      · rename_i g hg
        split at e
        · rename_i r hr; cases e; exact ⟨h, g, r, hg, hr, rfl⟩
        · cases e
      · cases e
    · cases e
  obtain ⟨hrl, hrow⟩ := bwdUp_rows es 0 rows hrows
  intro l J Jx W hW hJ hJx hround h0
  have fin : ∀ {a : Act} {w : World}, a.defers = [] → (J rows.reverse.length w ∨ Jx w) → a.defers = [] ∧ ∃ v, (results fn a.tmps).run P w = .ok v w ∧ (∃ v', Ending.returned v = .returned v') ∧ (J rows.reverse.length w ∨ Jx w) := by
    intro a w hd h
    obtain ⟨u, h1, _⟩ := run_results (P := P) (fn := fn) (t := []) (a := a.tmps) (memS_inv (S := S0) (W := w) ⟨nofun, nofun⟩) (fun i => .junk _) (vs := []) (by rw [hrs]; rfl)
    exact ⟨hd, u, h1, ⟨u, rfl⟩, h⟩
  refine calls_of_wp hfn hbody (wpR_none.1 ?_)
  have hls : lb.size = 1 := hlb.1
  -- the closure's frame
  obtain ⟨a0, ha0⟩ : ∃ a0 : Act, a0 = { tmps := (#[.func (.yield l) #[] #[]] ++ lb) ++ Array.replicate (fn.ntmps - (#[Value.func (.yield l) #[] #[]] ++ lb).size) undef, defers := [] } := ⟨_, rfl⟩
  rw [← ha0]
  have hA0 : At W.heap.size [] (memS S) 19 ⟨[(1, .one (.iptr [.isl es] 0))], [], []⟩ a0 W ∧ a0.tmps.getD 0 undef = .func (.yield l) #[] #[] := by
    obtain ⟨v, hv⟩ : ∃ v, lb = #[v] := by
      refine ⟨lb[0], ?_⟩
      apply Array.ext
      · simp [hls]
      · intro i h1 h2
        have : i = 0 := by simp at h2; omega
        subst this; rfl
    subst hv
    subst ha0
    refine ⟨⟨memS_inv hW, fun i => ?_, rfl, by simp [hnt]⟩, by simp [Array.getD]⟩
    rw [tget_cons]
    split
    · rename_i e; subst e
      have := hlb.2 0 (by simp)
      simpa [Array.getD, hnt] using this
    · exact .junk _
  clear ha0
  refine wpIn_seq (wpIn_region ?_)
  have lenS : lenOK P b.S (.isl es) = true := by simp [lenOK, hS]
  have wr : ∀ z : Int, -1 ≤ z → z < 4611686018427387904 → IntKind.i64.wrap z = z := fun z h1 h2 => wrap_i64 (by omega) (by omega)
  have e0 : absOps P (CIR P bwdC) 19 (bwdOps0 b) (bwdOps0 b).toList ⟨[(1, .one (.iptr [.isl es] 0))], [], []⟩ =
      some ⟨[(3, .one (.int .i64 ((es.length : Int) - 1))), (6, .one (.int .i64 ((es.length : Int) - 1))), (5, .one (.int .i64 (es.length : Int))), (4, .one (.isl es)), (1, .one (.iptr [.isl es] 0))], [], []⟩ := by
    have h1 := wr ((es.length : Int) - 1) (by omega) (by omega)
    simp [bwdOps0, hSa, hSs, lenK, lenS, lenL, h1]
  have all : ∀ {ops : Array Oper} {n : Nat} {N : Nat} {ro : Option Nat} {M : Mem} {B : Nat} {w : World} {s s' : St} {a : Act} {Q : Exit → Act → World → Prop}, (∀ o, o ∈ ops.toList → looks o.op = true) → At B [] M N s a w → absOps P (CIR P bwdC) N ops ops.toList s = some s' →
      (∀ a', At B [] M N s' a' w → Keep ops.toList a a' → Q .normal a' w) → wpOpsIn (FO ro) n P ops Q (List.range ops.size) a w := by
    intro ops n N ro M B w s s' a Q h1 h2 h3 h4
    have := looksOps (P := P) (n := n) (ro := ro) (ops := ops) (Q := Q) (rest := []) ops.toList 0 s s' a h1 (fun j o hj => by simpa using hj) h2 h3 (fun a' k1 k2 => by unfold wpOpsIn; exact h4 a' k1 k2)
    rw [List.append_nil] at this
    rw [List.range_eq_range']
    simpa using this
  refine all (by simp [bwdOps0, looks]) hA0.1 e0 fun a1 hA1 k1 => ?_
  have y1 : a1.tmps.getD 0 undef = .func (.yield l) #[] #[] := (k1.1 0 (by simp [bwdOps0])).trans hA0.2
  have hB1 : BwdAt es S l ((es.length : Int) - 1) a1 W := ⟨⟨hA1.inv, TR_two hA1.tr (by simp) (by simp), hA1.defers, hA1.size⟩, y1⟩
  clear hA1 k1 y1 hA0 e0
  refine wpIn_block (wpR_loop_n (fun k a w => k ≤ es.length ∧ BwdAt es S l ((k : Int) - 1) a w ∧ StabIn S w ∧ J (es.length - k) w) ?_ (n := es.length) ⟨Nat.le_refl _, hB1, hW, by rw [Nat.sub_self]; exact h0⟩)
  clear hB1 a1 h0 hW
  rintro k a w ⟨hk, hB, hSw, hJk⟩
  -- is there one more?
  have e1 : absOps P (CIR P bwdC) 19 (bwdOps1 b) (bwdOps1 b).toList ⟨[(3, .one (.int .i64 ((k : Int) - 1))), (1, .one (.iptr [.isl es] 0))], [], []⟩ =
      some ⟨[(8, .one (.bool (decide (1 ≤ k)))), (7, .one (.int .i64 ((k : Int) - 1))), (3, .one (.int .i64 ((k : Int) - 1))), (1, .one (.iptr [.isl es] 0))], [], []⟩ := by
    have : decide ((0 : Int) ≤ (k : Int) - 1) = decide (1 ≤ k) := by rw [decide_eq_decide]; omega
    simp [bwdOps1, this]
    omega
  refine wpIn_seq (wpIn_seq (wpIn_region ?_))
  refine all (by simp [bwdOps1, looks]) hB.1 e1 fun a1 hA1 k1 => ?_
  have y1 : a1.tmps.getD 0 undef = .func (.yield l) #[] #[] := (k1.1 0 (by simp [bwdOps1])).trans hB.2
  have hB1 : BwdAt es S l ((k : Int) - 1) a1 w := ⟨⟨hA1.inv, TR_two hA1.tr (by simp) (by simp), hA1.defers, hA1.size⟩, y1⟩
  have c1 : a1.eval (.tmp 8) = .bool (decide (1 ≤ k)) := by
    have := hA1.tr 8
    exact this.one_inv.bool_inv
  clear hA1 k1 y1 hB e1
  cases k with
  | zero =>
    refine wpIn_cond_false (by rw [c1]; rfl) (wpIn_exit ?_)
    simp only [Exit.then, Exit.inBlock, if_true]
    exact fin hB1.1.defers (.inl (by rw [List.length_reverse, hrl]; exact hJk))
  | succ j =>
    refine wpIn_cond_true (by rw [c1]; rfl) (wpIn_skip ?_)
    have hj1 : (((j + 1 : Nat) : Int) - 1) = (j : Int) := by omega
    rw [hj1] at hB1
    obtain ⟨cs, hcs⟩ : ∃ cs, es[j]? = some cs := ⟨_, List.getElem?_eq_getElem (by omega)⟩
    obtain ⟨hts, v, hv, hr⟩ := hrow j cs hcs
    rw [Nat.zero_add] at hr
    have hx : rows.reverse[es.length - (j + 1)]? = some [.one (.int .i64 (j : Int)), v] := by
      rw [List.getElem?_reverse (by omega), hrl]
      rw [show es.length - 1 - (es.length - (j + 1)) = j by omega]
      exact hr
    refine wpIn_seq (wpIn_block (wpIn_seq (wpR_any (n := 10) (wpIn_region ?_))))
    -- the function to which all is told, by hand: the machine knows nothing of it
    have hr3 : List.range (bwdOps3 b).size = 0 :: (List.range' 1 (bwdOpsA b).length ++ [6, 7]) := rfl
    rw [hr3]
    have o0 : (bwdOps3 b)[0]? = some (bwdOpF b) := rfl
    have o6 : (bwdOps3 b)[6]? = some (bwdOpY b) := rfl
    have o7 : (bwdOps3 b)[7]? = some (bwdOpN b) := rfl
    simp only [wpOpsIn, o0]
    have w0 : Region.wanted (bwdOpF b) (yielded (bwdOps3 b) a1.tmps) = true := rfl
    rw [w0]
    simp only [if_true]
    unfold Oper.wpIn
    refine ⟨fun _ _ => trivial, ?_⟩
    rw [Oper.semAt_eq _ _ _ (by simp [bwdOpF])]
    have r0 : (execOp a1.eval (bwdOpF b)).run P w = .ok (.value (.func (.yield l) #[] #[])) w := by
      have : a1.eval (.tmp 0) = .func (.yield l) #[] #[] := hB1.2
      simp [execOp, bwdOpF, this]
    rw [r0]
    show wpOpsIn _ _ _ _ _ _ (a1.put (some 11) _) w
    obtain ⟨q1, q2, q3⟩ := TR_put hB1.1.tr hB1.1.size (some 11) (v := .junk) (u := .func (.yield l) #[] #[]) (.junk _)
    obtain ⟨a2, ha2⟩ : ∃ a2, a2 = a1.put (some 11) (.func (.yield l) #[] #[]) := ⟨_, rfl⟩
    have y2 : a2.tmps.getD 0 undef = .func (.yield l) #[] #[] ∧ a2.tmps.getD 11 undef = .func (.yield l) #[] #[] := by
      have hsz := hB1.1.size
      constructor
      · rw [ha2, put_keep (by simp)]; exact hB1.2
      · rw [ha2]; simp [Act.put, Array.getD, hsz]
    rw [← ha2] at q1 q2 q3 ⊢
    have hA2 : At w.heap.size [] (memS S) 19 ⟨(11, .junk) :: [(3, .one (.int .i64 (j : Int))), (1, .one (.iptr [.isl es] 0))], [], []⟩ a2 w :=
      ⟨hB1.1.inv, q1, by rw [q3]; exact hB1.1.defers, q2⟩
    have eA : absOps P (CIR P bwdC) 19 (bwdOps3 b) (bwdOpsA b) ⟨(11, .junk) :: [(3, .one (.int .i64 (j : Int))), (1, .one (.iptr [.isl es] 0))], [], []⟩ =
        some ⟨[(16, v), (15, .one (.iptr cs 0)), (14, .one (.int .i64 (j : Int))), (13, .one (.isl es)), (12, .one (.int .i64 (j : Int))), (11, .junk), (3, .one (.int .i64 (j : Int))), (1, .one (.iptr [.isl es] 0))], [], []⟩ := by
      have hte : telem P b.S = some b.T := by simp [telem, hS]
      have hcut : cut cs 0 cs.length = some cs := by simp [cut]
      simp [bwdOpsA, hSa, hSs, hte, hcs, hts, hg, hv, hcut, -getElem?_pos]
    refine looksOps (P := P) (n := 10) (ro := none) (ops := bwdOps3 b) (rest := [6, 7]) (bwdOpsA b) 1 _ _ a2 (by simp [bwdOpsA, looks]) (fun i o h => by
      match i, h with
      | 0, h => exact h
      | 1, h => exact h
      | 2, h => exact h
      | 3, h => exact h
      | 4, h => exact h
      | i + 5, h => simp [bwdOpsA] at h) hA2 eA fun a3 hA3 k3 => ?_
    have y3 : a3.tmps.getD 0 undef = .func (.yield l) #[] #[] := (k3.1 0 (by simp [bwdOpsA])).trans y2.1
    have z3 : a3.tmps.getD 11 undef = .func (.yield l) #[] #[] := (k3.1 11 (by simp [bwdOpsA])).trans y2.2
    clear hA2 k3 eA y2 q1 q2 q3 r0 w0
    -- what is told
    have u1 : VV (memS S) (.one (.int .i64 (j : Int))) (a3.tmps.getD 12 undef) := hA3.tr 12
    have u2 : VV (memS S) v (a3.tmps.getD 16 undef) := hA3.tr 16
    obtain ⟨f', tm, as', bo, hy, hR⟩ := hround (es.length - (j + 1)) _ #[a3.tmps.getD 12 undef, a3.tmps.getD 16 undef] w hx (VL_two u1 u2) hJk hSw
    obtain ⟨U12, hU12⟩ : ∃ U, a3.tmps.getD 12 undef = U := ⟨_, rfl⟩
    obtain ⟨U16, hU16⟩ : ∃ U, a3.tmps.getD 16 undef = U := ⟨_, rfl⟩
    rw [hU12, hU16] at hy
    rw [wpOpsIn_cons]
    unfold wpOpIn
    rw [o6]
    simp only
    have w6 : Region.wanted (bwdOpY b) (yielded (bwdOps3 b) a3.tmps) = true := rfl
    rw [w6]
    simp only [if_true]
    unfold Oper.wpIn
    refine ⟨fun _ _ => trivial, ?_⟩
    rw [Oper.semAt_eq _ _ _ (by simp [bwdOpY])]
    have r6 : (execOp a3.eval (bwdOpY b)).run P w = .ok (.round l f' tm as' bo) w := by
      have h1 : a3.eval (.tmp 11) = .func (.yield l) #[] #[] := z3
      have h2 : a3.eval (.tmp 12) = U12 := hU12
      have h3 : a3.eval (.tmp 16) = U16 := hU16
      simp [execOp, bwdOpY, resolve, h1, h2, h3, Deferred.ofValue, invoke, hy]
    rw [r6, Oper.uponIn_round]
    refine ⟨fun h => by simp [FO] at h, hR.mono ?_⟩
    rintro e A (⟨rfl, hJ2, hS2⟩ | ⟨rfl, hx2⟩)
    · -- on
      show wpOpsIn _ _ _ _ _ [7] (a3.put (some 17) (.bool true)) A
      obtain ⟨q1, q2, q3⟩ := TR_put hA3.tr hA3.size (some 17) (v := .one (.bool true)) (u := .bool true) (.one (.pure (.bool true)))
      obtain ⟨a4, ha4⟩ : ∃ a4, a4 = a3.put (some 17) (.bool true) := ⟨_, rfl⟩
      have y4 : a4.tmps.getD 0 undef = .func (.yield l) #[] #[] := by rw [ha4, put_keep (by simp)]; exact y3
      rw [← ha4] at q1 q2 q3 ⊢
      have hA4 : At A.heap.size [] (memS S) 19 ⟨(17, .one (.bool true)) :: [(16, v), (15, .one (.iptr cs 0)), (14, .one (.int .i64 (j : Int))), (13, .one (.isl es)), (12, .one (.int .i64 (j : Int))), (11, .junk), (3, .one (.int .i64 (j : Int))), (1, .one (.iptr [.isl es] 0))], [], []⟩ a4 A := ⟨memS_inv hS2, q1, by rw [q3]; exact hA3.defers, q2⟩
      have e7 : absOps P (CIR P bwdC) 19 (bwdOps3 b) [bwdOpN b] ⟨(17, .one (.bool true)) :: [(16, v), (15, .one (.iptr cs 0)), (14, .one (.int .i64 (j : Int))), (13, .one (.isl es)), (12, .one (.int .i64 (j : Int))), (11, .junk), (3, .one (.int .i64 (j : Int))), (1, .one (.iptr [.isl es] 0))], [], []⟩ =
          some ⟨(18, .one (.bool false)) :: (17, .one (.bool true)) :: [(16, v), (15, .one (.iptr cs 0)), (14, .one (.int .i64 (j : Int))), (13, .one (.isl es)), (12, .one (.int .i64 (j : Int))), (11, .junk), (3, .one (.int .i64 (j : Int))), (1, .one (.iptr [.isl es] 0))], [], []⟩ := by
        simp [bwdOpN]
      refine looksOps (P := P) (n := 10) (ro := none) (ops := bwdOps3 b) (rest := []) [bwdOpN b] 7 _ _ a4 (by simp [bwdOpN, looks]) (fun i o h => by
        match i, h with
        | 0, h => exact o7.trans h
        | i + 1, h => simp at h) hA4 e7 fun a5 hA5 k5 => ?_
      have y5 : a5.tmps.getD 0 undef = .func (.yield l) #[] #[] := (k5.1 0 (by simp [bwdOpN])).trans y4
      unfold wpOpsIn
      have c5 : a5.eval (.tmp 18) = .bool false := by
        have := hA5.tr 18
        exact this.one_inv.bool_inv
      show wpR none P (.cond (.tmp 18) .ret .skip) _ a5 A
      refine wpIn_cond_false c5 (wpIn_skip ?_)
      show wpR none P (.region 2 (bwdOps2 b) false) _ a5 A
      refine wpIn_region ?_
      have hA6 : At A.heap.size [] (memS S) 19 ⟨[(3, .one (.int .i64 (j : Int))), (1, .one (.iptr [.isl es] 0))], [], []⟩ a5 A := ⟨hA5.inv, TR_two hA5.tr (by simp) (by simp), hA5.defers, hA5.size⟩
      have e2 : absOps P (CIR P bwdC) 19 (bwdOps2 b) (bwdOps2 b).toList ⟨[(3, .one (.int .i64 (j : Int))), (1, .one (.iptr [.isl es] 0))], [], []⟩ =
          some ⟨[(3, .one (.int .i64 ((j : Int) - 1))), (10, .one (.int .i64 ((j : Int) - 1))), (9, .one (.int .i64 (j : Int))), (3, .one (.int .i64 (j : Int))), (1, .one (.iptr [.isl es] 0))], [], []⟩ := by
        have h1 := wr ((j : Int) - 1) (by omega) (by omega)
        simp [bwdOps2, h1]
      refine all (by simp [bwdOps2, looks]) hA6 e2 fun a7 hA7 k7 => ?_
      refine ⟨j, Nat.lt_succ_self j, by omega, ⟨⟨hA7.inv, TR_two hA7.tr (by simp) (by simp), hA7.defers, hA7.size⟩, (k7.1 0 (by simp [bwdOps2])).trans y5⟩, hS2, ?_⟩
      rw [show es.length - j = es.length - (j + 1) + 1 by omega]
      exact hJ2
    · -- no more
      show wpOpsIn _ _ _ _ _ [7] (a3.put (some 17) (.bool false)) A
      have hI0 := memS_inv (S := S0) (W := A) ⟨nofun, nofun⟩
      obtain ⟨q1, q2, q3⟩ := TR_put (M := memS S0) (N := 19) (t := []) (a := a3) (fun i => .junk _) hA3.size (some 17) (v := .one (.bool false)) (u := .bool false) (.one (.pure (.bool false)))
      have hA4 : At A.heap.size [] (memS S0) 19 ⟨[(17, .one (.bool false))], [], []⟩ (a3.put (some 17) (.bool false)) A := ⟨hI0, q1, by rw [q3]; exact hA3.defers, q2⟩
      have e7 : absOps P (CIR P bwdC) 19 (bwdOps3 b) [bwdOpN b] ⟨[(17, .one (.bool false))], [], []⟩ = some ⟨[(18, .one (.bool true)), (17, .one (.bool false))], [], []⟩ := by
        simp [bwdOpN]
      refine looksOps (P := P) (n := 10) (ro := none) (ops := bwdOps3 b) (rest := []) [bwdOpN b] 7 _ _ _ (by simp [bwdOpN, looks]) (fun i o h => by
        match i, h with
        | 0, h => exact o7.trans h
        | i + 1, h => simp at h) hA4 e7 fun a5 hA5 k5 => ?_
      unfold wpOpsIn
      have c5 : a5.eval (.tmp 18) = .bool true := by
        have := hA5.tr 18
        exact this.one_inv.bool_inv
      show wpR none P (.cond (.tmp 18) .ret .skip) _ a5 A
      refine wpIn_cond_true c5 (wpIn_ret ?_)
      exact fin hA5.defers (.inr hx2)
end

theorem callee_run {P : Program} {g : FuncId} (hc : callee P g = true) (args : Array Value) (w : World) : (callFunc g args).run P w = .ok (.enter g args) w := by
  unfold callee at hc
  split at hc
  · rename_i fn hfn
    simp only [Bool.and_eq_true, bne_iff_ne, ne_eq] at hc
    have hb : fn.body.isNone = false := by cases h : fn.body <;> simp [h] at hc ⊢
    have hb' : fn.body ≠ none := by intro h; simp [h] at hb
    simp [callFunc, hfn, hc.2, hb, hb']
  · cases hc

structure BwdOK (P : Program) (b : BW) : Prop where
  fn : ∃ fn, P.funcs[b.gf]? = some fn ∧ fn.body = some (bwdBody b) ∧ fn.ntmps = 19 ∧ fn.results = #[]
  call : callee P b.gf = true
  slice : P.underlying b.S = some (.slice b.T)
  agg : tagg P b.S = some false
  size : tsize P b.S = some 1

def itIs (a b : BW) : Bool := Nat.beq a.gf b.gf && Nat.beq a.S b.S && Nat.beq a.T b.T && Nat.beq a.F b.F && Nat.beq a.I b.I && Nat.beq a.B b.B
theorem itIs_eq {a b : BW} (h : itIs a b = true) : a = b := by
  unfold itIs at h
  simp only [Bool.and_eq_true, Nat.beq_eq] at h
  obtain ⟨⟨⟨⟨⟨h1, h2⟩, h3⟩, h4⟩, h5⟩, h6⟩ := h
  cases a; cases b
  simp only at h1 h2 h3 h4 h5 h6
  subst h1 h2 h3 h4 h5 h6
  rfl
def itsIn (bs : List BW) : List (Nat × Kd) → Bool
  | [] => true
  | e :: K => (match e.2 with
    | .it b => bs.any (itIs b)
    | _ => true) && itsIn bs K
theorem itOf_in {bs : List BW} {g : Nat} {b : BW} : ∀ {K : List (Nat × Kd)}, itsIn bs K = true → itOf g K = some b → b ∈ bs ∧ b.gf = g
  | [], _, e => by cases e
  | (i, kd) :: K, h, e => by
    unfold itsIn at h
    rw [Bool.and_eq_true] at h
    unfold itOf at e
    cases kd with
    | it c =>
      simp only at e h
      split at e
      · rename_i hg
        cases e
        obtain ⟨d, hd, he⟩ := List.any_eq_true.1 h.1
        rw [itIs_eq he]
        exact ⟨hd, by rw [← itIs_eq he]; exact hg⟩
      · exact itOf_in h.2 e
    | p => exact itOf_in h.2 e
    | s a ks => exact itOf_in h.2 e
    | b ks => exact itOf_in h.2 e
    | b2 ks => exact itOf_in h.2 e
    | m => exact itOf_in h.2 e
    | r a => exact itOf_in h.2 e
    | x a => exact itOf_in h.2 e

theorem it_all {P : Program} {tab : List (List (Nat × Kd))} {bs : List BW} (h : (tab.all fun K => itsIn bs K) = true) (hb : ∀ b, b ∈ bs → BwdOK P b) (f : Nat) : ItOK P (tab.getD f []) := by
  intro gf b es xs S lb h1 h2 h3
  have hK : itsIn bs (tab.getD f []) = true := by
    rw [List.getD]
    cases hf : tab[f]? with
    | none => rfl
    | some K => exact List.all_eq_true.1 h K (List.mem_of_getElem? hf)
  obtain ⟨k1, rfl⟩ := itOf_in hK h1
  obtain ⟨⟨fn, g1, g2, g3, g4⟩, g5, g6, g7, g8⟩ := hb b k1
  exact ⟨bwd_stops g1 g2 g3 g4 g6 g7 g8 h2 h3, callee_run g5⟩
end Go.Proofs.YtkbdhjfjbkmkcaaGreat.Abs
