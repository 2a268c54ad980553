/- The abstract machine: a law that answers true on all trees holds as its row says. -/
import Derived.Test.YtkbdhjfjbkmkcaaGreatJT25
import Derived.WideShapes
import Derived.OpenShut
import Derived.ShutString
import Derived.ChangeOld
import Derived.SizedLaws
import Derived.Carry
set_option linter.unusedSimpArgs false
set_option linter.unusedVariables false
namespace Go.Proofs.YtkbdhjfjbkmkcaaGreat.Abs
open Go Go.RowKit Go.ChangeShapes Go.WideShapes

def TypedV : Ty → V → Prop
  | .struct fs, v => ∃ ls, v = .agg ls ∧ TypedAll fs ls
  | ty, v => ∃ l, v = .one l ∧ Typed ty [l]

def TypedVs : List Ty → List V → Prop
  | [], vs => vs = []
  | t :: ts, vs => ∃ v r, vs = v :: r ∧ TypedV t v ∧ TypedVs ts r

def fitsEach (P : Program) : List Ty → List TypeId → Bool
  | [], [] => true
  | ty :: tys, t :: ts => ty.fits P t && fitsEach P tys ts
  | _, _ => false

theorem one_told {w : World} {ls : List Leaf} {v : Value} (h : Told (worldStab w) ls [v]) : ∃ l, ls = [l] ∧ VV (memOf w) (.one l) v := by
  obtain ⟨h1, h2⟩ := h
  match ls, h1 with
  | [l], _ => 
    have h3 : PVR (worldStab w) l v := by simpa using h2 0 (by simp)
    exact ⟨l, rfl, .one (.pure h3)⟩

section
variable {H : Type} {enc : TypeId × Value → H} {P : Program} {w : World}

theorem trod_V {ty : Ty} {t : TypeId} {base : Nat} {v : Value} {d : DataW H} {ps : List MemPlace} (hf : ty.fits P t = true) (hv : Value.okWide P w .any base t v) (h : DataW.Trod enc P w 0 (fun _ => true) true t v d ps) (hw : ∀ n, n ∈ d.weights P t → n ≤ reachBytes) :
    ∃ x, TypedV ty x ∧ VV (memOf w) x v := by
  obtain ⟨fuel, h⟩ := h
  obtain ⟨ls, h1, h2, h3⟩ := trod_typed ty hf h hw
  cases ty with
  | struct fs =>
    have hf' := hf
    unfold Ty.fits at hf'
    split at hf'
    · rename_i fds hu
      obtain ⟨cs, rfl, _⟩ := okWide_struct hu hv
      simp only [Value.cells] at h3
      refine ⟨.agg ls, ⟨ls, rfl, by simpa [Typed] using h1⟩, .agg ⟨h3.1.symm, fun j hj => .pure (h3.2 j hj)⟩⟩
    · cases hf'
  | bool =>
    have hf' := hf
    unfold Ty.fits at hf'
    split at hf'
    · rename_i hu
      obtain ⟨b, rfl⟩ := okWide_bool hu hv
      obtain ⟨l, rfl, hl⟩ := one_told h3
      exact ⟨.one l, ⟨l, rfl, h1⟩, hl⟩
    · cases hf'
  | int k =>
    have hf' := hf
    unfold Ty.fits at hf'
    split at hf'
    · rename_i k' hu
      obtain ⟨b, rfl⟩ := okWide_int hu hv
      obtain ⟨l, rfl, hl⟩ := one_told h3
      exact ⟨.one l, ⟨l, rfl, h1⟩, hl⟩
    · cases hf'
  | str =>
    have hf' := hf
    unfold Ty.fits at hf'
    split at hf'
    · rename_i hu
      obtain ⟨b, rfl⟩ := okWide_string hu hv
      obtain ⟨l, rfl, hl⟩ := one_told h3
      exact ⟨.one l, ⟨l, rfl, h1⟩, hl⟩
    · cases hf'
  | slice e =>
    have hf' := hf
    unfold Ty.fits at hf'
    split at hf'
    · rename_i et hu
      obtain ⟨a, len, cap, rfl⟩ := okWide_slice hu hv
      obtain ⟨l, rfl, hl⟩ := one_told h3
      exact ⟨.one l, ⟨l, rfl, h1⟩, hl⟩
    · cases hf'

theorem trodAll_V : ∀ (tys : List Ty) (ts : List TypeId) {base : Nat} {vs : List Value} {ds : List (DataW H)} {ps : List MemPlace}, fitsEach P tys ts = true → (∀ (j : Nat) t v, ts[j]? = some t → vs[j]? = some v → Value.okWide P w .any base t v) →
    DataW.TrodAll enc P w 0 (fun _ => true) true ts vs ds ps → (∀ n, n ∈ DataW.weightsEach P ts ds → n ≤ reachBytes) → ∃ xs, TypedVs tys xs ∧ vs.length = xs.length ∧ (∀ i, i < xs.length → VV (memOf w) (xs.getD i .junk) (vs.getD i undef)) ∧ ds.length = tys.length
  | [], [], base, vs, ds, ps, hf, hv, h, hw => by
    obtain ⟨rfl, rfl, rfl⟩ := trodAll_nil h
    exact ⟨[], rfl, rfl, fun i hi => by simp at hi, rfl⟩
  | [], t :: ts, base, vs, ds, ps, hf, hv, h, hw => by simp [fitsEach] at hf
  | ty :: tys, [], base, vs, ds, ps, hf, hv, h, hw => by simp [fitsEach] at hf
  | ty :: tys, t :: ts, base, vs, ds, ps, hf, hv, h, hw => by
    simp only [fitsEach, Bool.and_eq_true] at hf
    obtain ⟨v, vs', d, ds', p, q, rfl, rfl, rfl, h1, h2⟩ := trodAll_cons h
    obtain ⟨x, x1, x2⟩ := trod_V hf.1 (hv 0 t v rfl rfl) h1 fun n hn => hw n (weightsEach_mem (j := 0) rfl rfl hn)
    obtain ⟨xs, y1, y2, y3, y4⟩ := trodAll_V tys ts hf.2 (fun j t' v' ht hv' => hv (j + 1) t' v' (by simpa using ht) (by simpa using hv')) h2 fun n hn => hw n (by
      unfold DataW.weightsEach
      exact List.mem_append_right _ hn)
    refine ⟨x :: xs, ⟨x, xs, rfl, x1, y1⟩, by simp [y2], fun i hi => ?_, by simp [y4]⟩
    cases i with
    | zero => simpa using x2
    | succ i => simpa using y3 i (by simpa using hi)

theorem trodAll_stays (hl : laidOutB P = true) {W' : World} (hb : Go.RowKit.Below w.heap.size w W') : ∀ (ts : List TypeId) {vs : List Value} {ds : List (DataW H)} {ps : List MemPlace}, (ts.all fun t => P.readableRec t && decide (t < P.types.size)) = true →
    DataW.TrodAll enc P w 0 (fun _ => true) true ts vs ds ps → DataW.TrodAll enc P W' 0 (fun b => decide (b < w.heap.size)) true ts vs ds ps
  | [], vs, ds, ps, hr, h => by
    obtain ⟨rfl, rfl, rfl⟩ := trodAll_nil h
    rfl
  | t :: ts, vs, ds, ps, hr, h => by
    simp only [List.all_cons, Bool.and_eq_true, decide_eq_true_eq] at hr
    obtain ⟨v, vs', d, ds', p, q, rfl, rfl, rfl, h1, h2⟩ := trodAll_cons h
    refine trodAll_cons_mk (Go.RowKit.Below.trod hl hr.1.1 hr.1.2 h1 hb ?_) (trodAll_stays hl hb ts hr.2 h2)
    obtain ⟨m, hm⟩ := h1
    exact DataW.trod_lt m _ _ _ hm
end

theorem law_lifted {C : Checked} {os : Os} {f : FuncId} {fn : Func} {s : ChangeSpec} {H : Type} {enc : TypeId × Value → H} {conds : List PathCond} {tys : List Ty} {rt : TypeId}
    (own : ownKnob C.prog.godebug = none) (started : os.Started) (noInit : C.prog.inits.idxOf? f = none) (hfn : C.prog.funcs[f]? = some fn)
    (witness : ∃ (w : World) (tape : Tape) (i : Input), w.os = os ∧ (w.forCall tape i).Shaped C.prog ∧ i.vars = [] ∧ Input.okWide C.prog (w.forCall tape i) .any w.heap.size f i ∧
      s.pre6 enc C.prog fn conds false (w.forCall tape i).memory i.args ∧ Assume.holds {} C.prog (lone (Frame.enter C.prog f i.args .normal) [] (w.forCall tape i)))
    (hm : C.prog.follows .mixedOrders = true) (laid : laidOutB C.prog = true) (hvars : s.vars = [])
    (hspec : ∀ ds : List (DataW H), ds.length = tys.length → s.fn H ds = { results := [.lit (.bool true)], args := ds })
    (hread : (fn.params.toList.all fun t => C.prog.readableRec t && decide (t < C.prog.types.size)) = true)
    (hres : fn.resultTypes = #[rt]) (hrt : C.prog.underlying rt = some .bool) (hfit : fitsEach C.prog tys fn.params.toList = true)
    (law : ∀ vs, TypedVs tys vs → ∃ (K : Cfg) (k : Nat) (h : Heap) (ws : List Nat), CfgOK C.prog K ∧ absCall C.prog K k f vs [] = some (.one (.bool true), h, ws)) :
    ReturnsInHanded {} C os f .any (s.pre6 enc C.prog fn conds false) (s.post enc C.prog fn false true false false) := by
  refine returnsInHanded_of_change_sized own started noInit hfn witness ?_
  intro W base args ds gs before hval hW hcnd hsz _
  have hW' := hW
  obtain ⟨p, q, hA, hV, rfl, hfz, hnd⟩ := hW
  rw [hvars] at hV
  obtain ⟨rfl, rfl⟩ := trodVars_none hV
  obtain ⟨xs, x1, x2, x3, x4⟩ := trodAll_V tys fn.params.toList hfit (fun j t v ht hv => hval j t v (by simpa using ht) (by simpa using hv)) hA fun n hn => by
    have hsz' : (DataW.weightsEach C.prog (fn.params.toList ++ s.plain.varTypes C.prog) (ds ++ [])).all (· ≤ reachBytes) = true := hsz
    have hvt : s.plain.varTypes C.prog = [] := by simp [DataSpec.varTypes, ChangeSpec.plain, hvars]
    rw [hvt, List.append_nil, List.append_nil] at hsz'
    simpa using List.all_eq_true.1 hsz' n hn
  obtain ⟨K, k, h, ws, hit, hl⟩ := law xs x1
  have hVL : VL (memOf W) xs args := ⟨by simpa using x2, fun i hi => by rw [← getD_toList]; exact x3 i hi⟩
  refine (absCall_ok K hit hm k W.heap.size (memOf W) [] W f xs _ h ws args (memOf_inv W) hVL hl).mono fun e W' hr => ?_
  cases e with
  | returned u =>
    obtain ⟨M', _, _, hu, bel⟩ := hr
    have hb := hu.one_inv.bool_inv
    subst hb
    refine ⟨_, rfl, ds, [], p ++ [], [], p, [], hW', ?_, ?_, ?_, bel.toBelow.frame _, fun h => by cases h⟩
    · rw [List.append_nil, hspec ds x4, hres]
      exact trodAll_mk1 ⟨1, by simp [DataW.trod, Value.cells, hrt]⟩
    · rw [List.append_nil, hspec ds x4]
      exact trodAll_stays laid bel.toBelow _ hread hA
    · rw [List.append_nil, hspec ds x4, hvars]
      rfl
  | panicked _ => exact hr.elim
  | outgrown => exact hr.elim
end Go.Proofs.YtkbdhjfjbkmkcaaGreat.Abs
