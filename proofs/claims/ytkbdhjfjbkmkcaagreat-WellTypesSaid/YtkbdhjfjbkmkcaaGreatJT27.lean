/- The abstract machine without a bound: what calls, loops and code come to, if they come to anything. -/
import Derived.Test.YtkbdhjfjbkmkcaaGreatJT26
set_option linter.unusedSimpArgs false
set_option linter.unusedVariables false
namespace Go.Proofs.YtkbdhjfjbkmkcaaGreat.Abs
open Go Go.RowKit

abbrev CR := Option (AX × St)

def Evt (p : Nat → Prop) : Prop := ∃ k0, ∀ k, k0 ≤ k → p k

theorem Evt.of {p : Nat → Prop} (h : ∀ k, p k) : Evt p := ⟨0, fun k _ => h k⟩
theorem Evt.and {p q : Nat → Prop} : Evt p → Evt q → Evt fun k => p k ∧ q k
  | ⟨a, h⟩, ⟨b, k⟩ => ⟨max a b, fun n hn => ⟨h n (by omega), k n (by omega)⟩⟩
theorem Evt.mono {p q : Nat → Prop} (h : Evt p) (f : ∀ k, p k → q k) : Evt q := by
  obtain ⟨a, h⟩ := h
  exact ⟨a, fun n hn => f n (h n hn)⟩
theorem Evt.from {p : Nat → Prop} (n : Nat) (h : ∀ k, n ≤ k → p k) : Evt p := ⟨n, h⟩

open Classical in
noncomputable def CI (P : Program) (C : Cfg) : CF := fun f args h =>
  if e : ∃ r, Evt fun k => absCall P C k f args h = some r then some e.choose else none

theorem CI_iff {P : Program} {C : Cfg} {f : FuncId} {args : List V} {h : Heap} {r : V × Heap × List Nat} : CI P C f args h = some r ↔ Evt fun k => absCall P C k f args h = some r := by
  unfold CI
  constructor
  · intro e
    split at e
    · rename_i hx
      cases e
      exact hx.choose_spec
    · cases e
  · intro e
    have hx : ∃ r, Evt fun k => absCall P C k f args h = some r := ⟨r, e⟩
    rw [dif_pos hx]
    obtain ⟨a, h1⟩ := hx.choose_spec
    obtain ⟨b, h2⟩ := e
    have h3 := h1 (max a b) (by omega)
    simp only at h3
    have h4 := h2 (max a b) (by omega)
    simp only at h4
    rw [h4] at h3
    exact h3.symm

noncomputable def CIR (P : Program) (C : Cfg) : CF := cfR C.read (CI P C)
def acR (P : Program) (C : Cfg) (k : Nat) : CF := cfR C.read (absCall P C k)
theorem CIR_evt {P : Program} {C : Cfg} {f : FuncId} {args : List V} {h : Heap} {r : V × Heap × List Nat} (e : CIR P C f args h = some r) : Evt fun k => acR P C k f args h = some r := by
  rcases cfR_some e with ⟨hr, e1⟩ | ⟨hr, as, v, h1, ws1, e1, e2, e3, e4⟩
  · refine (CI_iff.1 e1).mono fun k hk => ?_
    unfold acR cfR; rw [hr]; exact hk
  · refine (CI_iff.1 e2).mono fun k hk => ?_
    unfold acR cfR; rw [hr]; simp only [e1, hk, e3, if_true, e4]

theorem iter_more {f : St → CR} : ∀ {n m : Nat} {s : St} {r : AX × St}, iter f n s = some r → n ≤ m → iter f m s = some r
  | 0, m, s, r, e, _ => by cases e
  | n + 1, 0, s, r, e, h => by omega
  | n + 1, m + 1, s, r, e, h => by
    unfold iter at e ⊢
    cases hs : f s with
    | none => rw [hs] at e; cases e
    | some q =>
      obtain ⟨x, s'⟩ := q
      rw [hs] at e
      cases x with
      | normal => exact iter_more (n := n) e (by omega)
      | exit i => exact e
      | goto i => exact e
      | ret => exact e

open Classical in
noncomputable def iterI (f : St → CR) (s : St) : CR := if e : ∃ r n, iter f n s = some r then some e.choose else none

theorem iterI_iff {f : St → CR} {s : St} {r : AX × St} : iterI f s = some r ↔ ∃ n, iter f n s = some r := by
  unfold iterI
  constructor
  · intro e
    split at e
    · rename_i hx; cases e; exact hx.choose_spec
    · cases e
  · rintro ⟨n, e⟩
    have hx : ∃ r n, iter f n s = some r := ⟨r, n, e⟩
    rw [dif_pos hx]
    obtain ⟨m, h1⟩ := hx.choose_spec
    have h2 := iter_more h1 (Nat.le_max_left m n)
    rw [iter_more e (Nat.le_max_right m n)] at h2
    exact h2.symm

theorem iterI_next {f : St → CR} {s s' : St} (h : f s = some (.normal, s')) : iterI f s = iterI f s' := by
  have key : ∀ r, iterI f s = some r ↔ iterI f s' = some r := by
    intro r
    rw [iterI_iff, iterI_iff]
    constructor
    · rintro ⟨n, e⟩
      cases n with
      | zero => cases e
      | succ n => unfold iter at e; rw [h] at e; exact ⟨n, e⟩
    · rintro ⟨n, e⟩
      exact ⟨n + 1, by unfold iter; rw [h]; exact e⟩
  cases hs : iterI f s with
  | some r => exact ((key r).1 hs).symm
  | none =>
    cases hs' : iterI f s' with
    | none => rfl
    | some r => rw [(key r).2 hs'] at hs; cases hs

theorem iterI_last {f : St → CR} {s : St} {r : AX × St} (h : f s = some r) (hx : r.1 ≠ .normal) : iterI f s = some r := by
  rw [iterI_iff]
  refine ⟨1, ?_⟩
  unfold iter
  rw [h]
  obtain ⟨x, s'⟩ := r
  cases x <;> first | rfl | exact (hx rfl).elim

section
variable (P : Program) (C : Cfg) (sc : Code → Code → St → CR) (N n0 : Nat) (K : List (Nat × Kd))

noncomputable def run : Code → St → CR
  | .skip, s => some (.normal, s)
  | .region id ops false, s => (absOps P (CIR P C) N ops ops.toList s).map fun s => (.normal, atR n0 K id s)
  | .region id ops true, s => (absDraw P (CIR P C) N ops s).map fun s => (.normal, atR n0 K id s)
  | .seq a b, s => match run a s with
    | some (.normal, s') => run b s'
    | r => r
  | .cond c a b, s => match ev s.tmps c with
    | .one (.bool true) => run a s
    | .one (.bool false) => run b s
    | _ => none
  | .block id c, s => match run c s with
    | some (.exit i, s') => if i = id then some (.normal, s') else some (.exit i, s')
    | r => r
  | .loop c, s => iterI (fun s => tidyR n0 K (run c s)) (tidy n0 K s)
  | .exit id, s => some (.exit id, s)
  | .scope c, s => match run c s with
    | some (.goto l, s') => match findLabel c l with
      | some rest => sc c rest s'
      | none => some (.goto l, s')
    | r => r
  | .label _, s => some (.normal, s)
  | .goto l, s => some (.goto l, s)
  | .ret, s => some (.ret, s)
  | .rangeFunc g ps as body, s => match rangeOf P K (ps.size == 2 && flatC K as && flatC K body) (ev s.tmps g) with
    | some xs => rangeGo (roundR N n0 K ps.toList (fun s => run as s) fun s => run body s) xs (tidy n0 K s)
    | none => none
  | .refuse _, _ => none
end

section
variable (P : Program) (C : Cfg) (N n0 : Nat) (K : List (Nat × Kd))
noncomputable def runScope : Nat → Code → Code → St → CR
  | 0, _, _, _ => none
  | m + 1, body, cur, s => match run P C (runScope m) N n0 K cur s with
    | some (.goto l, s') => match findLabel body l with
      | some rest => runScope m body rest s'
      | none => some (.goto l, s')
    | r => r
end

section
variable {P : Program} {C : Cfg}

theorem absOp_ap {slot : Option Nat} {t : Tmps} {h : Heap} {o : Oper} {r : V × Heap × List Nat} (e : absOp P (CIR P C) slot t h o = some r) : Evt fun k => absOp P (acR P C k) slot t h o = some r := by
  obtain ⟨dst, op, ty, pos, after, guard⟩ := o
  cases op
  case call c =>
    obtain ⟨callee, args, tys⟩ := c
    cases callee with
    | value f =>
      simp only [absOp] at e ⊢
      split at e
      · rename_i g caps hf
        split at e
        · rename_i hc
          have := CIR_evt e
          simpa [hf, hc] using this
        · cases e
      · cases e
    | builtin b => exact .of fun k => e
    | invoke r m => exact .of fun k => e
  case makeFunc f a b => cases f <;> exact .of fun k => e
  case makeMap a b => cases b <;> exact .of fun k => e
  all_goals exact .of fun k => e

theorem absOps_ap {N : Nat} {ops : Array Oper} : ∀ (l : List Oper) {s s' : St}, absOps P (CIR P C) N ops l s = some s' → Evt fun k => absOps P (acR P C k) N ops l s = some s'
  | [], s, s', e => .of fun k => e
  | o :: l, s, s', e => by
    unfold absOps at e
    split at e
    · cases e
    · rename_i hw
      refine (absOps_ap l e).mono fun k hk => ?_
      unfold absOps; rw [hw]; exact hk
    · rename_i hw
      split at e
      · cases e
      · rename_i v h' ws hop
        refine ((absOp_ap hop).and (absOps_ap l e)).mono fun k hk => ?_
        unfold absOps; rw [hw]; simp only [hk.1]; exact hk.2

theorem drawOp_ap {slot : Nat} {t : Tmps} {h : Heap} {b : Nat} {hs : List Nat} {o : Oper} {r : V × Heap × List Nat × Rec} (e : drawOp P (CIR P C) slot t h b hs o = some r) : Evt fun k => drawOp P (acR P C k) slot t h b hs o = some r := by
  have lift : ∀ {slot : Option Nat} {h : Heap}, Evt fun k => ∀ q, absOp P (CIR P C) slot t h o = some q → absOp P (acR P C k) slot t h o = some q := by
    intro slot h
    cases hop : absOp P (CIR P C) slot t h o with
    | none => exact .of fun k q hq => by cases hq
    | some q => exact (absOp_ap hop).mono fun k hk q' hq => by cases hq; exact hk
  refine ((lift (slot := none) (h := [])).and ((lift (slot := some slot) (h := h)).and ((lift (slot := none) (h := h)).and (lift (slot := none) (h := blank hs 0 h))))).mono fun k hk => ?_
  obtain ⟨h1, h2, h3, h4⟩ := hk
  unfold drawOp at e ⊢
  split at e
  · (try simp only [])
    split at e
    · rename_i hop; rw [h1 _ hop]; exact e
    · cases e
  · (try simp only [])
    split at e
    · rename_i hop; rw [h2 _ hop]; exact e
    · cases e
  · (try simp only [])
    split at e
    · (try simp only [])
      split at e
      · (try simp only [])
        split at e
        · rename_i hop; rw [h3 _ hop]; exact e
        · cases e
      · cases e
    · cases e
  · (try simp only [])
    split at e
    · rename_i hop; rw [h2 _ hop]; exact e
    · cases e
  · (try simp only [])
    split at e
    · rename_i hop; rw [h4 _ hop]; exact e
    · cases e
  · cases e

theorem drawGo_ap {N : Nat} {ops : Array Oper} {slots bs : List Nat} : ∀ (l : List Oper) (i : Nat) (recs : List Rec) {s : St} {r : List Rec × St}, drawGo P (CIR P C) N ops slots bs l i recs s = some r → Evt fun k => drawGo P (acR P C k) N ops slots bs l i recs s = some r
  | [], i, recs, s, r, e => .of fun k => e
  | o :: l, i, recs, s, r, e => by
    unfold drawGo at e
    simp only at e
    split at e
    · rename_i ht
      split at e
      · cases e
      · rename_i hw
        refine (drawGo_ap l (i + 1) _ e).mono fun k hk => ?_
        unfold drawGo; simp only [ht, if_true, hw]; exact hk
      · rename_i hw
        split at e
        · cases e
        · rename_i v h' ws q hop
          refine ((drawOp_ap hop).and (drawGo_ap l (i + 1) _ e)).mono fun k hk => ?_
          unfold drawGo; simp only [ht, if_true, hw, hk.1]; exact hk.2
    · cases e

theorem absDraw_ap {N : Nat} {ops : Array Oper} {s s' : St} (e : absDraw P (CIR P C) N ops s = some s') : Evt fun k => absDraw P (acR P C k) N ops s = some s' := by
  unfold absDraw at e
  simp only at e
  split at e
  · rename_i hc
    split at e
    · cases e
    · rename_i recs s1 hg
      refine (drawGo_ap _ _ _ hg).mono fun k hk => ?_
      unfold absDraw
      simp only [hc, if_true, hk]
      exact e
  · cases e

def ScAp (sc : Code → Code → St → CR) (sk : Nat → Code → Code → St → CR) : Prop := ∀ c cur s r, sc c cur s = some r → Evt fun k => sk k c cur s = some r

theorem iter_ap {f : St → CR} {fk : Nat → St → CR} (hf : ∀ s r, f s = some r → Evt fun k => fk k s = some r) : ∀ (n : Nat) {s : St} {r : AX × St}, iter f n s = some r → Evt fun k => iter (fk k) n s = some r
  | 0, s, r, e => by cases e
  | n + 1, s, r, e => by
    unfold iter at e
    cases hs : f s with
    | none => rw [hs] at e; cases e
    | some q =>
      obtain ⟨x, s'⟩ := q
      rw [hs] at e
      cases x with
      | normal =>
        refine ((hf _ _ hs).and (iter_ap hf n e)).mono fun k hk => ?_
        unfold iter; rw [hk.1]; exact hk.2
      | exit i => refine (hf _ _ hs).mono fun k hk => ?_; unfold iter; rw [hk]; exact e
      | goto i => refine (hf _ _ hs).mono fun k hk => ?_; unfold iter; rw [hk]; exact e
      | ret => refine (hf _ _ hs).mono fun k hk => ?_; unfold iter; rw [hk]; exact e

theorem rangeGo_ap {f : List V → St → CR} {fk : Nat → List V → St → CR} (hf : ∀ v s r, f v s = some r → Evt fun k => fk k v s = some r) : ∀ (xs : List (List V)) {s : St} {r : AX × St}, rangeGo f xs s = some r → Evt fun k => rangeGo (fk k) xs s = some r
  | [], s, r, e => .of fun k => e
  | v :: xs, s, r, e => by
    unfold rangeGo at e
    cases hs : f v s with
    | none => rw [hs] at e; cases e
    | some q =>
      obtain ⟨x, s'⟩ := q
      rw [hs] at e
      cases x with
      | normal =>
        refine ((hf _ _ _ hs).and (rangeGo_ap hf xs e)).mono fun k hk => ?_
        unfold rangeGo; rw [hk.1]; exact hk.2
      | exit i => refine (hf _ _ _ hs).mono fun k hk => ?_; unfold rangeGo; rw [hk]; exact e
      | goto i => refine (hf _ _ _ hs).mono fun k hk => ?_; unfold rangeGo; rw [hk]; exact e
      | ret => refine (hf _ _ _ hs).mono fun k hk => ?_; unfold rangeGo; rw [hk]; exact e

theorem roundR_ap {N n0 : Nat} {K : List (Nat × Kd)} {ps : List Nat} {fa fb : St → CR} {ga gb : Nat → St → CR} (ha : ∀ s r, fa s = some r → Evt fun k => ga k s = some r) (hb : ∀ s r, fb s = some r → Evt fun k => gb k s = some r)
    {v : List V} {s : St} {r : AX × St} (e : roundR N n0 K ps fa fb v s = some r) : Evt fun k => roundR N n0 K ps (ga k) (gb k) v s = some r := by
  unfold roundR at e
  cases h1 : fa ⟨setAll N ps v s.tmps, s.heap, s.ws⟩ with
  | none => rw [h1] at e; cases e
  | some q =>
    obtain ⟨x, s1⟩ := q
    rw [h1] at e
    cases x with
    | normal =>
      simp only at e
      cases h2 : fb s1 with
      | none => rw [h2] at e; cases e
      | some q2 =>
        rw [h2] at e
        refine ((ha _ _ h1).and (hb _ _ h2)).mono fun k hk => ?_
        unfold roundR
        rw [hk.1]
        simp only [hk.2]
        exact e
    | exit i => cases e
    | goto i => cases e
    | ret => cases e

theorem run_ap {N n0 : Nat} {K : List (Nat × Kd)} {sc : Code → Code → St → CR} {sk : Nat → Code → Code → St → CR} (hsc : ScAp sc sk) (c : Code) :
    ∀ (s : St) (r : AX × St), run P C sc N n0 K c s = some r → Evt fun k => absCode P (acR P C k) (sk k) k N n0 K c s = some r := by
  induction c with
  | skip => intro s r e; exact .of fun k => e
  | region id ops draw =>
    intro s r e
    cases draw with
    | false =>
      simp only [run] at e
      obtain ⟨s1, e1, e2⟩ := Option.map_eq_some_iff.1 e
      refine (absOps_ap _ e1).mono fun k hk => ?_
      simp only [absCode, hk, Option.map_some, e2]
    | true =>
      simp only [run] at e
      obtain ⟨s1, e1, e2⟩ := Option.map_eq_some_iff.1 e
      refine (absDraw_ap e1).mono fun k hk => ?_
      simp only [absCode, hk, Option.map_some, e2]
  | seq a b ih1 ih2 =>
    intro s r e
    simp only [run] at e
    cases h1 : run P C sc N n0 K a s with
    | none => rw [h1] at e; cases e
    | some q =>
      obtain ⟨y, s1⟩ := q
      rw [h1] at e
      cases y with
      | normal => exact ((ih1 _ _ h1).and (ih2 _ _ e)).mono fun k hk => by simp only [absCode, hk.1]; exact hk.2
      | exit i => exact (ih1 _ _ h1).mono fun k hk => by simp only [absCode, hk]; exact e
      | goto i => exact (ih1 _ _ h1).mono fun k hk => by simp only [absCode, hk]; exact e
      | ret => exact (ih1 _ _ h1).mono fun k hk => by simp only [absCode, hk]; exact e
  | cond c a b ih1 ih2 =>
    intro s r e
    simp only [run] at e
    split at e
    · rename_i hb; exact (ih1 _ _ e).mono fun k hk => by simp only [absCode, hb]; exact hk
    · rename_i hb; exact (ih2 _ _ e).mono fun k hk => by simp only [absCode, hb]; exact hk
    · cases e
  | block id c ih =>
    intro s r e
    simp only [run] at e
    cases h1 : run P C sc N n0 K c s with
    | none => rw [h1] at e; cases e
    | some q =>
      obtain ⟨y, s1⟩ := q
      rw [h1] at e
      exact (ih _ _ h1).mono fun k hk => by simp only [absCode, hk]; exact e
  | loop c ih =>
    intro s r e
    simp only [run] at e
    obtain ⟨n, e1⟩ := iterI_iff.1 e
    have := iter_ap (fk := fun k s => tidyR n0 K (absCode P (acR P C k) (sk k) k N n0 K c s)) (fun s1 r1 h1 => by
      obtain ⟨x, s2⟩ := r1
      obtain ⟨s3, h3, rfl⟩ := tidyR_some h1
      exact (ih _ _ h3).mono fun k hk => by rw [hk]; rfl) n e1
    refine (this.and (Evt.from n fun k hk => hk)).mono fun k hk => ?_
    simp only [absCode]
    exact iter_more hk.1 hk.2
  | rangeFunc g ps as body ih1 ih2 =>
    intro s r e
    simp only [run] at e
    split at e
    · rename_i xs hx
      refine (rangeGo_ap (fun v s r => roundR_ap ih1 ih2) xs e).mono fun k hk => ?_
      simp only [absCode, hx]; exact hk
    · cases e
  | exit id => intro s r e; exact .of fun k => e
  | scope c ih =>
    intro s r e
    simp only [run] at e
    cases h1 : run P C sc N n0 K c s with
    | none => rw [h1] at e; cases e
    | some q =>
      obtain ⟨y, s1⟩ := q
      rw [h1] at e
      cases y with
      | normal => exact (ih _ _ h1).mono fun k hk => by simp only [absCode, hk]; exact e
      | exit i => exact (ih _ _ h1).mono fun k hk => by simp only [absCode, hk]; exact e
      | goto i =>
        simp only at e
        cases hf : findLabel c i with
        | none => rw [hf] at e; exact (ih _ _ h1).mono fun k hk => by simp only [absCode, hk, hf]; exact e
        | some rest =>
          rw [hf] at e
          exact ((ih _ _ h1).and (hsc _ _ _ _ e)).mono fun k hk => by simp only [absCode, hk.1, hf]; exact hk.2
      | ret => exact (ih _ _ h1).mono fun k hk => by simp only [absCode, hk]; exact e
  | label l => intro s r e; exact .of fun k => e
  | goto l => intro s r e; exact .of fun k => e
  | ret => intro s r e; exact .of fun k => e
  | refuse why => intro s r e; simp [run] at e

theorem runScope_ap {N n0 : Nat} {K : List (Nat × Kd)} : ∀ (m : Nat) (j : Nat → Nat), ScAp (runScope P C N n0 K m) fun k => absScope P (acR P C k) k N n0 K (m + j k)
  | 0, j => fun c cur s r e => by cases e
  | m + 1, j => fun c cur s r e => by
    simp only [runScope] at e
    cases h1 : run P C (runScope P C N n0 K m) N n0 K cur s with
    | none => rw [h1] at e; cases e
    | some q =>
      obtain ⟨y, s1⟩ := q
      rw [h1] at e
      have h2 := run_ap (runScope_ap m j) cur _ _ h1
      cases y with
      | normal => exact h2.mono fun k hk => by simp only [Nat.add_right_comm m 1, absScope, hk]; exact e
      | exit i => exact h2.mono fun k hk => by simp only [Nat.add_right_comm m 1, absScope, hk]; exact e
      | goto i =>
        simp only at e
        cases hf : findLabel c i with
        | none => rw [hf] at e; exact h2.mono fun k hk => by simp only [Nat.add_right_comm m 1, absScope, hk, hf]; exact e
        | some rest =>
          rw [hf] at e
          exact (h2.and (runScope_ap m j _ _ _ _ e)).mono fun k hk => by simp only [Nat.add_right_comm m 1, absScope, hk.1, hf]; exact hk.2
      | ret => exact h2.mono fun k hk => by simp only [Nat.add_right_comm m 1, absScope, hk]; exact e

def finish (P : Program) (C : Cfg) (f : FuncId) (rs : List ResultVar) (n0 : Nat) : CR → Option (V × Heap × List Nat)
  | some (.normal, s) => match resOf P s.tmps s.heap rs with
    | some vs => some (wrapUp (C.keep f) n0 (resV vs) s.heap s.ws)
    | none => none
  | some (.ret, s) => match resOf P s.tmps s.heap rs with
    | some vs => some (wrapUp (C.keep f) n0 (resV vs) s.heap s.ws)
    | none => none
  | _ => none

theorem CI_of {f : FuncId} {fn : Func} {body : Code} (hf : P.funcs[f]? = some fn) (hb : fn.body = some body) (m : Nat) {args : List V} {h : Heap} {r : V × Heap × List Nat}
    (e : finish P C f fn.results.toList h.length (run P C (runScope P C (max fn.ntmps args.length) h.length (C.live f) m) (max fn.ntmps args.length) h.length (C.live f) body ⟨argT 0 args, h, []⟩) = some r) (ht : C.told f args = none := by rfl) : CI P C f args h = some r := by
  rw [CI_iff]
  cases h1 : run P C (runScope P C (max fn.ntmps args.length) h.length (C.live f) m) (max fn.ntmps args.length) h.length (C.live f) body ⟨argT 0 args, h, []⟩ with
  | none => rw [h1] at e; cases e
  | some q =>
    obtain ⟨x, s⟩ := q
    rw [h1] at e
    obtain ⟨k0, hk⟩ := run_ap (runScope_ap m fun k => k - m) body _ _ h1
    refine ⟨max k0 m + 1, fun k hk' => ?_⟩
    obtain ⟨n, rfl⟩ : ∃ n, k = n + 1 := ⟨k - 1, by omega⟩
    have h2 := hk n (by omega)
    simp only at h2
    rw [show m + (n - m) = n by omega] at h2
    simp only [absCall, ht, hf, hb]
    simp only [acR] at h2
    rw [h2]
    unfold finish at e
    cases x with
    | normal =>
      simp only at e ⊢
      split at e
      · rename_i vs hv; rw [hv]; exact e
      · cases e
    | ret =>
      simp only at e ⊢
      split at e
      · rename_i vs hv; rw [hv]; exact e
      · cases e
    | exit i => cases e
    | goto l => cases e

theorem CI_call {f : FuncId} {args : List V} {h : Heap} {r : V × Heap × List Nat} (e : CI P C f args h = some r) : ∃ k, absCall P C k f args h = some r := by
  obtain ⟨k, hk⟩ := CI_iff.1 e
  exact ⟨k, hk k (Nat.le_refl _)⟩

theorem CIR_fr : CFFr (CIR P C) := cfR_fr (by
  intro f args H v H' ws e
  obtain ⟨k, hk⟩ := CI_call e
  exact absCall_fr k _ _ _ _ _ _ hk)

theorem CIR_eq {f : FuncId} {args : List V} {h : Heap} : CIR P C f args h = if C.read f = true then (match mapO (fzV h 0 []) args with
    | none => none
    | some as => match CI P C f as [] with
      | some (v, _, _) => if scalarV v then some (v, h, []) else none
      | none => none) else CI P C f args h := by
  unfold CIR cfR
  cases C.read f <;> rfl
end

/-! More room changes nothing. -/

def Le (cf cf' : CF) : Prop := ∀ f args h r, cf f args h = some r → cf' f args h = some r

theorem cfR_le {rd : FuncId → Bool} {cf cf' : CF} (hl : Le cf cf') : Le (cfR rd cf) (cfR rd cf') := by
  intro f args h r e
  rcases cfR_some e with ⟨hr, e1⟩ | ⟨hr, as, v, h1, ws1, e1, e2, e3, e4⟩
  · unfold cfR; rw [hr]; exact hl _ _ _ _ e1
  · unfold cfR; rw [hr]; simp only [e1, hl _ _ _ _ e2, e3, if_true, e4]

section
variable {P : Program} {cf cf' : CF} (hl : Le cf cf')
include hl

theorem absOp_le {slot : Option Nat} {t : Tmps} {h : Heap} {o : Oper} {r : V × Heap × List Nat} (e : absOp P cf slot t h o = some r) : absOp P cf' slot t h o = some r := by
  obtain ⟨dst, op, ty, pos, after, guard⟩ := o
  cases op
  case call c =>
    obtain ⟨callee, args, tys⟩ := c
    cases callee with
    | value f =>
      simp only [absOp] at e ⊢
      split at e
      · rename_i g caps hf
        split at e
        · rename_i hc
          simpa [hf, hc] using hl _ _ _ _ e
        · cases e
      · cases e
    | builtin b => exact e
    | invoke r m => exact e
  case makeFunc f a b => cases f <;> exact e
  case makeMap a b => cases b <;> exact e
  all_goals exact e

theorem absOps_le {N : Nat} {ops : Array Oper} : ∀ (l : List Oper) {s s' : St}, absOps P cf N ops l s = some s' → absOps P cf' N ops l s = some s'
  | [], s, s', e => e
  | o :: l, s, s', e => by
    unfold absOps at e ⊢
    split at e
    · cases e
    · exact absOps_le l e
    · split at e
      · cases e
      · rename_i v h' ws hop
        rw [absOp_le hl hop]; exact absOps_le l e

theorem drawOp_le {slot : Nat} {t : Tmps} {h : Heap} {b : Nat} {hs : List Nat} {o : Oper} {r : V × Heap × List Nat × Rec} (e : drawOp P cf slot t h b hs o = some r) : drawOp P cf' slot t h b hs o = some r := by
  have lift : ∀ {slot : Option Nat} {h : Heap} {q}, absOp P cf slot t h o = some q → absOp P cf' slot t h o = some q := fun h => absOp_le hl h
  unfold drawOp at e ⊢
  split at e
  · (try simp only [])
    split at e
    · rename_i hop; rw [lift hop]; exact e
    · cases e
  · (try simp only [])
    split at e
    · rename_i hop; rw [lift hop]; exact e
    · cases e
  · (try simp only [])
    split at e
    · (try simp only [])
      split at e
      · (try simp only [])
        split at e
        · rename_i hop; rw [lift hop]; exact e
        · cases e
      · cases e
    · cases e
  · (try simp only [])
    split at e
    · rename_i hop; rw [lift hop]; exact e
    · cases e
  · (try simp only [])
    split at e
    · rename_i hop; rw [lift hop]; exact e
    · cases e
  · cases e

theorem drawGo_le {N : Nat} {ops : Array Oper} {slots bs : List Nat} : ∀ (l : List Oper) (i : Nat) (recs : List Rec) {s : St} {r : List Rec × St}, drawGo P cf N ops slots bs l i recs s = some r → drawGo P cf' N ops slots bs l i recs s = some r
  | [], i, recs, s, r, e => e
  | o :: l, i, recs, s, r, e => by
    unfold drawGo at e ⊢
    simp only at e ⊢
    split at e
    · rename_i ht
      rw [if_pos ht]
      split at e
      · cases e
      · exact drawGo_le l (i + 1) _ e
      · split at e
        · cases e
        · rename_i v h' ws q hop
          rw [drawOp_le hl hop]; exact drawGo_le l (i + 1) _ e
    · cases e

theorem absDraw_le {N : Nat} {ops : Array Oper} {s s' : St} (e : absDraw P cf N ops s = some s') : absDraw P cf' N ops s = some s' := by
  unfold absDraw at e ⊢
  simp only at e ⊢
  split at e
  · rename_i hc
    rw [if_pos hc]
    split at e
    · cases e
    · rename_i recs s1 hg
      rw [drawGo_le hl _ _ _ hg]; exact e
  · cases e

omit hl in
theorem iter_le {f f' : St → CR} (hf : ∀ s r, f s = some r → f' s = some r) : ∀ {n m : Nat} {s : St} {r : AX × St}, n ≤ m → iter f n s = some r → iter f' m s = some r
  | 0, m, s, r, _, e => by cases e
  | n + 1, 0, s, r, h, e => by omega
  | n + 1, m + 1, s, r, h, e => by
    unfold iter at e ⊢
    cases hs : f s with
    | none => rw [hs] at e; cases e
    | some q =>
      obtain ⟨x, s'⟩ := q
      rw [hs] at e
      rw [hf _ _ hs]
      cases x with
      | normal => exact iter_le hf (by omega) e
      | exit i => exact e
      | goto i => exact e
      | ret => exact e

omit hl in
theorem rangeGo_le {f f' : List V → St → CR} (hf : ∀ v s r, f v s = some r → f' v s = some r) : ∀ (xs : List (List V)) {s : St} {r : AX × St}, rangeGo f xs s = some r → rangeGo f' xs s = some r
  | [], s, r, e => e
  | v :: xs, s, r, e => by
    unfold rangeGo at e ⊢
    cases hs : f v s with
    | none => rw [hs] at e; cases e
    | some q =>
      obtain ⟨x, s'⟩ := q
      rw [hs] at e
      rw [hf _ _ _ hs]
      cases x with
      | normal => exact rangeGo_le hf xs e
      | exit i => exact e
      | goto i => exact e
      | ret => exact e

omit hl in
theorem roundR_le {N n0 : Nat} {K : List (Nat × Kd)} {ps : List Nat} {fa fb ga gb : St → CR} (ha : ∀ s r, fa s = some r → ga s = some r) (hb : ∀ s r, fb s = some r → gb s = some r)
    {v : List V} {s : St} {r : AX × St} (e : roundR N n0 K ps fa fb v s = some r) : roundR N n0 K ps ga gb v s = some r := by
  unfold roundR at e ⊢
  cases h1 : fa ⟨setAll N ps v s.tmps, s.heap, s.ws⟩ with
  | none => rw [h1] at e; cases e
  | some q =>
    obtain ⟨x, s1⟩ := q
    rw [h1] at e
    rw [ha _ _ h1]
    cases x with
    | normal =>
      simp only at e ⊢
      cases h2 : fb s1 with
      | none => rw [h2] at e; cases e
      | some q2 => rw [h2] at e; rw [hb _ _ h2]; exact e
    | exit i => cases e
    | goto i => cases e
    | ret => cases e

theorem absCode_le {n m N n0 : Nat} (hn : n ≤ m) {K : List (Nat × Kd)} {sc sc' : Code → Code → St → CR} (hsc : ∀ c cur s r, sc c cur s = some r → sc' c cur s = some r) (c : Code) :
    ∀ (s : St) (r : AX × St), absCode P cf sc n N n0 K c s = some r → absCode P cf' sc' m N n0 K c s = some r := by
  induction c with
  | skip => intro s r e; exact e
  | region id ops draw =>
    intro s r e
    cases draw with
    | false =>
      simp only [absCode] at e ⊢
      obtain ⟨s1, e1, e2⟩ := Option.map_eq_some_iff.1 e
      rw [absOps_le hl _ e1]; exact congrArg some e2
    | true =>
      simp only [absCode] at e ⊢
      obtain ⟨s1, e1, e2⟩ := Option.map_eq_some_iff.1 e
      rw [absDraw_le hl e1]; exact congrArg some e2
  | seq a b ih1 ih2 =>
    intro s r e
    simp only [absCode] at e ⊢
    cases h1 : absCode P cf sc n N n0 K a s with
    | none => rw [h1] at e; cases e
    | some q =>
      obtain ⟨y, s1⟩ := q
      rw [h1] at e
      rw [ih1 _ _ h1]
      cases y with
      | normal => exact ih2 _ _ e
      | exit i => exact e
      | goto i => exact e
      | ret => exact e
  | cond c a b ih1 ih2 =>
    intro s r e
    simp only [absCode] at e ⊢
    split at e
    · exact ih1 _ _ e
    · exact ih2 _ _ e
    · cases e
  | block id c ih =>
    intro s r e
    simp only [absCode] at e ⊢
    cases h1 : absCode P cf sc n N n0 K c s with
    | none => rw [h1] at e; cases e
    | some q => rw [h1] at e; rw [ih _ _ h1]; exact e
  | loop c ih =>
    intro s r e
    simp only [absCode] at e ⊢
    refine iter_le (fun s1 r1 h1 => ?_) hn e
    obtain ⟨x, s2⟩ := r1
    obtain ⟨s3, h3, rfl⟩ := tidyR_some h1
    rw [ih _ _ h3]; rfl
  | rangeFunc g ps as body ih1 ih2 =>
    intro s r e
    simp only [absCode] at e ⊢
    split at e
    · rename_i xs hx
      exact rangeGo_le (fun v s r => roundR_le ih1 ih2) xs e
    · cases e
  | exit id => intro s r e; exact e
  | scope c ih =>
    intro s r e
    simp only [absCode] at e ⊢
    cases h1 : absCode P cf sc n N n0 K c s with
    | none => rw [h1] at e; cases e
    | some q =>
      obtain ⟨y, s1⟩ := q
      rw [h1] at e
      rw [ih _ _ h1]
      cases y with
      | normal => exact e
      | exit i => exact e
      | goto i =>
        simp only at e ⊢
        split at e
        · exact hsc _ _ _ _ e
        · exact e
      | ret => exact e
  | label l => intro s r e; exact e
  | goto l => intro s r e; exact e
  | ret => intro s r e; exact e
  | refuse why => intro s r e; simp [absCode] at e

theorem absScope_le {n m N n0 : Nat} (hn : n ≤ m) {K : List (Nat × Kd)} : ∀ (a b : Nat), a ≤ b → ∀ c cur s r, absScope P cf n N n0 K a c cur s = some r → absScope P cf' m N n0 K b c cur s = some r
  | 0, b, _, c, cur, s, r, e => by cases e
  | a + 1, 0, h, c, cur, s, r, e => by omega
  | a + 1, b + 1, h, c, cur, s, r, e => by
    simp only [absScope] at e ⊢
    cases h1 : absCode P cf (absScope P cf n N n0 K a) n N n0 K cur s with
    | none => rw [h1] at e; cases e
    | some q =>
      obtain ⟨y, s1⟩ := q
      rw [h1] at e
      rw [absCode_le hl hn (absScope_le hn a b (by omega)) cur _ _ h1]
      cases y with
      | normal => exact e
      | exit i => exact e
      | goto i =>
        simp only at e ⊢
        split at e
        · exact absScope_le hn a b (by omega) _ _ _ _ e
        · exact e
      | ret => exact e
end

theorem absCall_le {P : Program} {C : Cfg} : ∀ n m, n ≤ m → Le (absCall P C n) (absCall P C m)
  | 0, m, _ => fun f args h r e => by cases e
  | n + 1, 0, h => by omega
  | n + 1, m + 1, hnm => fun f args h r e => by
    have ih := cfR_le (rd := C.read) (absCall_le (P := P) (C := C) n m (by omega))
    cases ht : C.told f args with
    | some v0 =>
      simp only [absCall, ht] at e ⊢
      exact e
    | none =>
    simp only [absCall, ht] at e ⊢
    split at e
    · cases e
    · split at e
      · cases e
      · rename_i body hb
        split at e
        · rename_i s1 hs
          rw [absCode_le ih (by omega) (absScope_le ih (by omega) n m (by omega)) body _ _ hs]; exact e
        · rename_i s1 hs
          rw [absCode_le ih (by omega) (absScope_le ih (by omega) n m (by omega)) body _ _ hs]; exact e
        · cases e

theorem CI_run {P : Program} {C : Cfg} {f : FuncId} {args : List V} {h : Heap} {r : V × Heap × List Nat} (n : Nat) (e : absCall P C n f args h = some r) : CI P C f args h = some r :=
  CI_iff.2 ⟨n, fun k hk => absCall_le n k hk _ _ _ _ e⟩
end Go.Proofs.YtkbdhjfjbkmkcaaGreat.Abs
