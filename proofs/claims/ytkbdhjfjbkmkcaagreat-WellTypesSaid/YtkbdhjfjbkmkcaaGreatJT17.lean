/- The abstract machine: what a call hands back; calls. -/
import Derived.Test.YtkbdhjfjbkmkcaaGreatJT16
import Derived.RangeFuncLeaves
set_option linter.unusedSimpArgs false
set_option linter.unusedVariables false
namespace Go.Proofs.YtkbdhjfjbkmkcaaGreat.Abs
open Go Go.RowKit

section
variable {B n0 : Nat} {M M1 : Mem} {H H1 : Heap} {w w1 : World}

theorem wrapL_sound {L : List (Option Nat)} (h0 : Inv B M H w) (hn : H.length = n0) (hE : ExtN n0 M M1) (h1 : Inv B M1 H1 w1) {ws : List Nat} (hfr : n0 ≤ H1.length ∧ ∀ id, id < n0 → id ∉ ws → H1[id]? = H[id]?)
    {v : V} {u : Value} (hv : VV M1 v u) {r : V × Heap} (e : wrapL n0 L v H1 ws = some r) : ∃ M2, Ext M M2 ∧ Inv B M2 r.2 w1 ∧ VV M2 r.1 u := by
  unfold wrapL at e
  split at e
  · rename_i hok
    split at e
    · cases e
    · rename_i v' hv'
      split at e
      · cases e
      · rename_i h' hh
        split at e
        · cases e
        · rename_i t ht
          cases e
          obtain ⟨g3, g4⟩ := fzH_ok h1 hfr.1 hh
          obtain ⟨k1, k2⟩ := cut_inv h0 hn h1 hfr hok g3 g4 (objs_al h1 ht)
          exact ⟨_, (hE.trans k1).full h0 hn, k2, normV_VV (fzV_sound h1 hv' hv)⟩
  · cases e

theorem wrapL_fr {L : List (Option Nat)} (hn : H.length = n0) {ws : List Nat} (hfr : n0 ≤ H1.length ∧ ∀ id, id < n0 → id ∉ ws → H1[id]? = H[id]?) {v : V} {r : V × Heap} (e : wrapL n0 L v H1 ws = some r) : Fr none H r.2 ws := by
  unfold wrapL at e
  split at e
  · split at e
    · cases e
    · split at e
      · cases e
      · rename_i h' hh
        split at e
        · cases e
        · cases e
          obtain ⟨k1, k2⟩ := fzH_fr hfr.1 hh
          refine ⟨by simp; omega, fun id hid hnw _ => ?_⟩
          simp only
          rw [List.getElem?_append_left (by omega), k2 id (by omega) hnw]
          exact hfr.2 id (by omega) hnw
  · cases e
theorem wrapC_sound (L : List (Option Nat)) (h0 : Inv B M H w) (hn : H.length = n0) (hE : ExtN n0 M M1) (h1 : Inv B M1 H1 w1) {ws : List Nat} (hfr : n0 ≤ H1.length ∧ ∀ id, id < n0 → id ∉ ws → H1[id]? = H[id]?)
    {v : V} {u : Value} (hv : VV M1 v u) : ∃ M2, Ext M M2 ∧ Inv B M2 (wrapC n0 L v H1 ws).2.1 w1 ∧ VV M2 (wrapC n0 L v H1 ws).1 u := by
  unfold wrapC
  split
  · exact ⟨M1, hE.full h0 hn, h1, hv⟩
  · rename_i r ht; exact wrapL_sound h0 hn hE h1 hfr hv ht

theorem wrapC_fr (L : List (Option Nat)) (hn : H.length = n0) {ws : List Nat} (hfr : n0 ≤ H1.length ∧ ∀ id, id < n0 → id ∉ ws → H1[id]? = H[id]?) (v : V) : Fr none H (wrapC n0 L v H1 ws).2.1 (wrapC n0 L v H1 ws).2.2 := by
  unfold wrapC
  split
  · exact ⟨by simp only; omega, fun id hid hnw _ => hfr.2 id (by omega) hnw⟩
  · rename_i r ht; exact wrapL_fr hn hfr ht

theorem wrapUp_sound (h0 : Inv B M H w) (hn : H.length = n0) (hE : ExtN n0 M M1) (h1 : Inv B M1 H1 w1) {ws : List Nat} (hfr : n0 ≤ H1.length ∧ ∀ id, id < n0 → id ∉ ws → H1[id]? = H[id]?)
    {v : V} {u : Value} (hv : VV M1 v u) (mode : Nat) : ∃ M2, Ext M M2 ∧ Inv B M2 (wrapUp mode n0 v H1 ws).2.1 w1 ∧ VV M2 (wrapUp mode n0 v H1 ws).1 u := by
  have hfr' : n0 ≤ H1.length ∧ ∀ id, id < n0 → id ∉ wsOf n0 ws → H1[id]? = H[id]? :=
    ⟨hfr.1, fun id hid hnw => hfr.2 id hid fun hx => hnw ((mem_ws n0 ws id).2 ⟨hx, hid⟩)⟩
  unfold wrapUp
  split
  · exact wrapC_sound _ h0 hn hE h1 hfr' hv
  · exact wrapC_sound _ h0 hn hE h1 hfr' hv
  · exact ⟨M1, hE.full h0 hn, h1, hv⟩

theorem wrapUp_fr (hn : H.length = n0) {ws : List Nat} (hfr : n0 ≤ H1.length ∧ ∀ id, id < n0 → id ∉ ws → H1[id]? = H[id]?) (v : V) (mode : Nat) : Fr none H (wrapUp mode n0 v H1 ws).2.1 (wrapUp mode n0 v H1 ws).2.2 := by
  have hfr' : n0 ≤ H1.length ∧ ∀ id, id < n0 → id ∉ wsOf n0 ws → H1[id]? = H[id]? :=
    ⟨hfr.1, fun id hid hnw => hfr.2 id hid fun hx => hnw ((mem_ws n0 ws id).2 ⟨hx, hid⟩)⟩
  unfold wrapUp
  split
  · exact wrapC_fr _ hn hfr' v
  · exact wrapC_fr _ hn hfr' v
  · exact ⟨by simp only; omega, fun id hid hnw _ => hfr'.2 id (by omega) hnw⟩
end

theorem argT_get : ∀ (args : List V) (k i : Nat), tget (argT k args) i = if k ≤ i ∧ i < k + args.length then args.getD (i - k) .junk else .junk
  | [], k, i => by simp [argT, tget]
  | v :: vs, k, i => by
    simp only [argT, tget_cons, argT_get vs (k + 1) i]
    by_cases h : k = i
    · subst h; simp
    · simp only [h, if_false, List.length_cons]
      by_cases h2 : k + 1 ≤ i ∧ i < k + 1 + vs.length
      · rw [if_pos h2, if_pos (by omega)]
        simp only [List.getD]
        rw [show i - k = (i - (k + 1)) + 1 by omega, List.getElem?_cons_succ]
      · rw [if_neg h2, if_neg (by omega)]

def resM (a : Array Value) : ResultVar → Sem Value
  | .tmp t => pure (a.getD t undef)
  | .cell x t => do loadVar t (← asAddr (a.getD x undef))

theorem results_eq (fn : Func) (a : Array Value) : results fn a = (fn.results.mapM (resM a) >>= fun vs => pure (if h : vs.size = 1 then vs[0] else .tuple vs)) := by
  unfold results
  congr 1

theorem run_resOf {P : Program} {B : Nat} {M : Mem} {H : Heap} {w : World} (hI : Inv B M H w) {t : Tmps} {a : Array Value} (hT : TR M t a) : ∀ (rs : List ResultVar) (vs : List V), resOf P t H rs = some vs →
    ∃ us : List Value, (rs.mapM (resM a)).run P w = .ok us w ∧ us.length = vs.length ∧ ∀ i, i < vs.length → VV M (vs.getD i .junk) (us.getD i undef)
  | [], vs, e => by cases e; exact ⟨[], rfl, rfl, fun i hi => by simp at hi⟩
  | .tmp x :: rs, vs, e => by
    simp only [resOf] at e
    split at e
    · cases e
    · rename_i vs' h1
      cases e
      obtain ⟨us, g1, g2, g3⟩ := run_resOf hI hT rs vs' h1
      refine ⟨a.getD x undef :: us, ?_, by simp [g2], fun i hi => ?_⟩
      · rw [List.mapM_cons]; simp only [resM, Sem.run_bind, Sem.run_pure, Result.andThen_ok]
        rw [show (List.mapM (resM a) rs).run P w = .ok us w from g1]; rfl
      · cases i with
        | zero => exact hT x
        | succ i => exact g3 i (by simpa using hi)
  | .cell x ty :: rs, vs, e => by
    simp only [resOf] at e
    split at e
    · rename_i l g n hl hg hn
      split at e
      · cases e
      · rename_i cs hcs
        split at e
        · rename_i v' vs' hv' hvs'
          cases e
          obtain ⟨us, g1, g2, g3⟩ := run_resOf hI hT rs vs' hvs'
          have hx := hT x
          rw [hl] at hx
          obtain ⟨ad, ws, hv, k1, k2, k3⟩ := rd_sound hI hcs hx.one_inv
          have hwl : ws.length = n := by rw [k2.1, k1]
          have hld : (loadCells ad n).run P w = .ok ws.toArray w := by
            have := run_loadCells_list (P := P) w ad ws k3
            rwa [hwl] at this
          obtain ⟨u, h4, h5⟩ : ∃ u, VV M v' u ∧ (loadVar ty ad).run P w = .ok u w := by
            unfold mkV at hv'
            cases g with
            | true =>
              simp only [if_true, Option.some.injEq] at hv'
              subst hv'
              exact ⟨.agg ws.toArray, .agg (by simpa using k2), by simp [loadVar, run_isAgg hg, run_sizeOf' hn, hld]⟩
            | false =>
              simp only [Bool.false_eq_true, if_false] at hv'
              split at hv'
              · rename_i l'
                cases hv'
                obtain ⟨u, rfl⟩ : ∃ u, ws = [u] := by
                  match ws, k2.1 with
                  | [u], _ => exact ⟨u, rfl⟩
                have hc := k3 0 u rfl
                rw [Addr.add_zero'] at hc
                exact ⟨u, .one (by have := k2.2 0 (by simp); simpa using this), by simp [loadVar, run_isAgg hg, hc]⟩
              · cases hv'
          refine ⟨u :: us, ?_, by simp [g2], fun i hi => ?_⟩
          · have hone : (resM a (.cell x ty)).run P w = .ok u w := by simp [resM, hv, asAddr, h5]
            rw [List.mapM_cons, Sem.run_bind, hone, Result.andThen_ok, Sem.run_bind, g1]; rfl
          · cases i with
            | zero => exact h4
            | succ i => exact g3 i (by simpa using hi)
        · cases e
    · cases e

theorem run_results {P : Program} {B : Nat} {M : Mem} {H : Heap} {w : World} (hI : Inv B M H w) {t : Tmps} {a : Array Value} (hT : TR M t a) {fn : Func} {vs : List V} (e : resOf P t H fn.results.toList = some vs) :
    ∃ u, (results fn a).run P w = .ok u w ∧ VV M (resV vs) u := by
  obtain ⟨us, g1, g2, g3⟩ := run_resOf hI hT _ vs e
  have hm : (fn.results.mapM (resM a)).run P w = .ok us.toArray w := by
    rw [Array.mapM_eq_mapM_toList, Sem.run_map, g1]; rfl
  refine ⟨if h : us.toArray.size = 1 then us.toArray[0] else .tuple us.toArray, ?_, ?_⟩
  · rw [results_eq, Sem.run_bind, hm]; rfl
  · match vs, us, g2 with
    | [v], [u], _ => simpa [resV] using g3 0 (by simp)
    | [], [], _ => exact .tup rfl (fun i hi => by simp at hi)
    | v :: v2 :: vs, u :: u2 :: us, h =>
      have hne : ¬ (u :: u2 :: us).toArray.size = 1 := by simp
      rw [dif_neg hne]
      refine .tup (by simpa using h) fun i hi => ?_
      rw [← getD_toList]
      exact g3 i hi

/-! Calls of functions that read alone. -/

def worldStab (w : World) : Stab := ⟨fun b => match w.heap[b]? with
  | some (.cells c _ _) => some c
  | _ => none, fun r => match w.heap[r]? with
  | some (.map ms _) => some ms
  | _ => none⟩

def memOf (w : World) : Mem := ⟨worldStab w, fun _ _ => none, fun _ => none, 0⟩

theorem memOf_inv (w : World) : Inv w.heap.size (memOf w) [] w := by
  refine ⟨Nat.le_refl _, ?_, nofun, nofun, fun id _ _ h => by simp at h, fun id _ _ h => by simp at h, fun id _ _ _ _ _ _ _ h => by simp at h, nofun, Nat.le_refl _, ?_, nofun⟩
  · intro b arr h
    simp only [memOf, worldStab] at h
    split at h
    · rename_i c e fr hh
      cases h
      exact ⟨e, fr, hh⟩
    · cases h
  · intro r ms h
    simp only [memOf, worldStab] at h
    split at h
    · rename_i ms' ck hh
      cases h
      exact ⟨ck, hh⟩
    · cases h

theorem cutAll {M : Mem} {H : Heap} {w : World} : Ext (cutMem 0 [] M H w) (memOf w) := by
  refine ⟨⟨fun b arr h => ?_, fun r ms h => ?_⟩, fun id sz hb h => ?_, fun id r h => ?_, Nat.le_refl _⟩
  rotate_left
  · have hn : ¬ LiveM 0 [] M r := by rintro ⟨id, h | h, _⟩ <;> simp at h
    simp only [cutMem, hn, if_false] at h
    simp only [memOf, worldStab]
    split at h
    · rename_i c e hh; cases h; rw [hh]
    · cases h
  rotate_right
  · have hn : ¬ LiveB 0 [] M H b := by rintro ⟨id, _, _, _, h | h, _⟩ <;> simp at h
    simp only [cutMem, hn, if_false] at h
    simp only [memOf, worldStab]
    split at h
    · rename_i c e fr hh; cases h; rw [hh]
    · cases h
  · simp [cutMem] at h
  · simp [cutMem] at h

theorem frozen_args {B : Nat} {M : Mem} {H : Heap} {w : World} (hI : Inv B M H w) {args as : List V} {vs : Array Value} (hA : VL M args vs) (e : mapO (fzV H 0 []) args = some as) : VL (memOf w) as vs := by
  obtain ⟨h1, h2⟩ := mapO_some e
  refine ⟨by rw [hA.1, h1], fun i hi => ?_⟩
  rw [h1] at hi
  obtain ⟨y, k1, k2⟩ := h2 i _ (List.getElem?_eq_getElem hi)
  have h3 := hA.2 i hi
  have e1 : as.getD i .junk = y := by simp [List.getD, k1]
  have e2 : args.getD i .junk = args[i] := by simp [List.getD, hi]
  rw [e1]; rw [e2] at h3
  exact (fzV_sound hI k2 h3).mono cutAll

theorem Inv.after {B : Nat} {M : Mem} {H : Heap} {w w' : World} (hI : Inv B M H w) (hb : Below w.heap.size w w') : Inv B M H w' := by
  have old : ∀ {k : Nat} {o : Obj}, w.heap[k]? = some o → w'.heap[k]? = some o := fun {k o} h => by rw [hb.block k (Array.getElem?_eq_some_iff.1 h).1]; exact h
  obtain ⟨h1, h2, h3, h4, h5, h6, h7, h8, h9, h10, h11⟩ := hI
  refine ⟨Nat.le_trans h1 hb.size, fun b arr h => ?_, h3, h4, fun id esz elems h => ?_, fun id ck es h => ?_, h7, h8, h9, fun r ms hr => (h10 r ms hr).imp fun ck g => old g, h11⟩
  · obtain ⟨e, fr, k⟩ := h2 b arr h; exact ⟨e, fr, old k⟩
  · rcases h5 id esz elems h with k | ⟨c, cap, arr, e, k1, k2, k3, k4⟩
    · exact .inl k
    · exact .inr ⟨c, cap, arr, e, k1, k2, old k3, k4⟩
  · obtain ⟨r, ms, k1, k2, k3, k4⟩ := h6 id ck es h
    exact ⟨r, ms, k1, k2, old k3, k4⟩

theorem scalarL_VR {M M' : Mem} {l : Leaf} {u : Value} (hs : scalarL l = true) (h : VR M l u) : VR M' l u := by
  cases l <;> simp only [scalarL, Bool.false_eq_true] at hs
  · rw [h.bool_inv]; exact .pure (.bool _)
  · rw [h.int_inv]; exact .pure (.int _ _)
  · rw [h.str_inv]; exact .pure (.str _)

theorem scalarV0_VV {M M' : Mem} {v : V} {u : Value} (hs : scalarV0 v = true) (h : VV M v u) : VV M' v u := by
  cases v with
  | junk => cases hs
  | tup _ => cases hs
  | one l => exact .one (scalarL_VR hs h.one_inv)
  | agg cs =>
    obtain ⟨arr, rfl, h1, h2⟩ := h.agg_inv
    refine .agg ⟨h1, fun j hj => scalarL_VR ?_ (h2 j hj)⟩
    have : cs.getD j .junk = cs[j] := by simp [List.getD, hj]
    rw [this]
    exact List.all_eq_true.1 hs _ (List.getElem_mem hj)

theorem scalarV_VV {M M' : Mem} {v : V} {u : Value} (hs : scalarV v = true) (h : VV M v u) : VV M' v u := by
  cases v with
  | junk => cases hs
  | one l => exact scalarV0_VV (v := .one l) hs h
  | agg cs => exact scalarV0_VV (v := .agg cs) hs h
  | tup vs =>
    obtain ⟨arr, rfl, h1, h2⟩ := h.tup_inv
    refine .tup h1 fun j hj => scalarV0_VV ?_ (h2 j hj)
    have : vs.getD j .junk = vs[j] := by simp [List.getD, hj]
    rw [this]
    exact List.all_eq_true.1 hs _ (List.getElem_mem hj)

theorem cfR_some {rd : FuncId → Bool} {cf : CF} {f : FuncId} {args : List V} {H : Heap} {r : V × Heap × List Nat} (e : cfR rd cf f args H = some r) :
    (rd f = false ∧ cf f args H = some r) ∨ (rd f = true ∧ ∃ as v h1 ws1, mapO (fzV H 0 []) args = some as ∧ cf f as [] = some (v, h1, ws1) ∧ scalarV v = true ∧ r = (v, H, [])) := by
  unfold cfR at e
  split at e
  · rename_i hr; exact .inl ⟨hr, e⟩
  · rename_i hr
    split at e
    · cases e
    · rename_i as has
      split at e
      · rename_i v h1 ws1 hv
        split at e
        · rename_i hs; cases e; exact .inr ⟨hr, as, v, h1, ws1, has, hv, hs, rfl⟩
        · cases e
      · cases e

theorem cfR_ok {P : Program} {rd : FuncId → Bool} {cf : CF} (hcf : CFOK P cf) : CFOK P (cfR rd cf) := by
  intro B M H w f args v H' ws vs hI hA e
  rcases cfR_some e with ⟨_, e1⟩ | ⟨_, as, v1, h1, ws1, e1, e2, e3, e4⟩
  · exact hcf B M H w f args v H' ws vs hI hA e1
  · cases e4
    refine (hcf w.heap.size (memOf w) [] w f as v h1 ws1 vs (memOf_inv w) (frozen_args hI hA e1) e2).mono fun x w' hr => ?_
    cases x with
    | returned u =>
      obtain ⟨M', _, _, k3, k4⟩ := hr
      exact ⟨M, .refl M, hI.after k4, scalarV_VV e3 k3, ⟨⟨k4.os, k4.tape, k4.output, k4.size, fun k hk => k4.block k (Nat.lt_of_lt_of_le hk hI.base)⟩, k4.mark⟩⟩
    | panicked _ => exact hr.elim
    | outgrown => exact hr.elim

theorem cfR_fr {rd : FuncId → Bool} {cf : CF} (hcf : CFFr cf) : CFFr (cfR rd cf) := by
  intro f args H v H' ws e
  rcases cfR_some e with ⟨_, e1⟩ | ⟨_, as, v1, h1, ws1, e1, e2, e3, e4⟩
  · exact hcf _ _ _ _ _ _ e1
  · cases e4; exact .same _ _ _

theorem Turn.refl (n : Nat) (W : World) : Turn n W W := ⟨rfl, rfl, rfl, Nat.le_refl _, fun _ _ h _ => h⟩

theorem leaves_marks {P : Program} {fn : Func} {tmps : Array Value} {R : Ending → World → Prop} {lo : Nat} : ∀ (Ds : List Nat) (w : World), Ds.Nodup → (∀ D, D ∈ Ds → lo ≤ D ∧ w.heap[D]? = some (.deferred (some []))) →
    (∀ w', Turn lo w w' → LeavesIn (FO none) 9 P fn tmps R [] .returning w') → LeavesInM (FO none) 9 P fn tmps R (Ds.map (fun D => { target := .collected D, args := #[] })) .returning w
  | [], w, _, _, h => h w (.refl _ _)
  | D :: Ds, w, hn, hD, h => by
    have h1 := hD D (List.mem_cons_self ..)
    have ht := Turn.put (.deferred none) h1.1 h1.2 rfl
    refine ⟨by simp, .inl ⟨D, _, rfl, run_takeDeferred h1.2, ?_⟩⟩
    refine leaves_marks Ds _ (List.nodup_cons.1 hn).2 (fun E hE => ⟨(hD E (List.mem_cons_of_mem _ hE)).1, ?_⟩) fun w' hw => h w' (ht.trans hw)
    exact (World.putObj_heap_other (by rintro rfl; exact (List.nodup_cons.1 hn).1 hE)).trans (hD E (List.mem_cons_of_mem _ hE)).2

def ToldOK (P : Program) (C : Cfg) : Prop :=
  ∀ (f : FuncId) (args : List V) (v : V), C.told f args = some v → ∀ (B : Nat) (M : Mem) (H : Heap) (w : World) (vs : Array Value), Inv B M H w → VL M args vs → Calls P f vs w (CallR B M w v H)
structure CfgOK (P : Program) (C : Cfg) : Prop where
  it : ∀ f, ItOK P (C.live f)
  told : ToldOK P C

theorem absCall_sound {P : Program} {C : Cfg} (hit : CfgOK P C) (hd : ∀ n, CFOK P (cfR C.read (absCall P C n)) → CFFr (cfR C.read (absCall P C n)) → DrawOK P (cfR C.read (absCall P C n))) : ∀ n, CFOK P (absCall P C n) ∧ CFFr (absCall P C n)
  | 0 => ⟨(fun B M H w f args v H' ws vs _ _ e => (by cases e)), (fun f args H v H' ws e => (by cases e))⟩
  | n + 1 => by
    obtain ⟨ih1', ih2'⟩ := absCall_sound hit hd n
    have ih1 := cfR_ok (rd := C.read) ih1'
    have ih2 := cfR_fr (rd := C.read) ih2'
    have hdn := hd n ih1 ih2
    have parts : ∀ {f args H r}, C.told f args = none → absCall P C (n + 1) f args H = some r → ∃ fn body x s, P.funcs[f]? = some fn ∧ fn.body = some body ∧
        absCode P (cfR C.read (absCall P C n)) (absScope P (cfR C.read (absCall P C n)) n (max fn.ntmps args.length) H.length (C.live f) n) n (max fn.ntmps args.length) H.length (C.live f) body ⟨argT 0 args, H, []⟩ = some (x, s) ∧ (x = .normal ∨ x = .ret) ∧
        ∃ rs, resOf P s.tmps s.heap fn.results.toList = some rs ∧ r = wrapUp (C.keep f) H.length (resV rs) s.heap s.ws := by
      intro f args H r ht e
      simp only [absCall, ht] at e
      split at e
      · cases e
      · rename_i fn hfn
        split at e
        · cases e
        · rename_i body hb
          split at e
          · rename_i s hs
            obtain ⟨rs, e1, e2⟩ := Option.map_eq_some_iff.1 e
            exact ⟨fn, body, _, s, hfn, hb, hs, .inl rfl, rs, e1, e2.symm⟩
          · rename_i s hs
            obtain ⟨rs, e1, e2⟩ := Option.map_eq_some_iff.1 e
            exact ⟨fn, body, _, s, hfn, hb, hs, .inr rfl, rs, e1, e2.symm⟩
          · cases e
    refine ⟨fun B M H w f args v H' ws vs hI hA e => ?_, fun f args H v H' ws e => ?_⟩
    · cases ht : C.told f args with
      | some v0 =>
        simp only [absCall, ht] at e
        cases e
        exact hit.told f args v ht B M H w vs hI hA
      | none =>
      obtain ⟨fn, body, x, s, hfn, hb, hs, hx, rs, hr, he⟩ := parts ht e
      have hfr := absCode_fr ih2 (n0 := H.length) (absScope_fr ih2 n) body _ _ _ (Nat.le_refl _) hs
      refine callsIn_FO.1 (callsIn_of_wp_marks (F := FO none) (n := 9) hfn hb trivial (wpR_none.2 ?_))
      have hAt : AtN B w.heap.size M (max fn.ntmps args.length) ⟨argT 0 args, H, []⟩ { tmps := vs ++ Array.replicate (fn.ntmps - vs.size) undef, defers := [] } w := by
        refine ⟨hI, fun i => ?_, Marks.nil (Nat.le_refl _), by have := hA.1; simp; omega⟩
        rw [argT_get]
        by_cases hi : 0 ≤ i ∧ i < 0 + args.length
        · rw [if_pos hi]
          have h1 := hA.2 i (by omega)
          have hlt : i < vs.size := by have := hA.1; omega
          have : (vs ++ Array.replicate (fn.ntmps - vs.size) undef).getD i undef = vs.getD i undef := by
            rw [← getD_toList, ← getD_toList]; simp only [List.getD, Array.toList_append]; rw [List.getElem?_append_left (by simpa using hlt)]
          rw [this]; exact h1
        · rw [if_neg hi]; exact .junk _
      refine wp_mono (absCode_sound ih1 ih2 hdn hI rfl (hit.it f) (absScope_sound ih1 ih2 hdn hI rfl (hit.it f) n) (absScope_fr ih2 n) body M x _ s _ w hAt ⟨Nat.le_refl _, fun _ _ _ => rfl⟩ hs) ?_
      intro e' a' w' hp
      obtain ⟨h1, ⟨_, Ds, hds, hnd, hD⟩, h3, M1, h4, h5, h6, h7⟩ := hp
      have fin : LeavesInM (FO none) 9 P fn a'.tmps (CallR B M w v H') a'.defers .returning w' := by
        rw [hds]
        refine leaves_marks (lo := w.heap.size) Ds w' hnd hD fun W ht => ?_
        obtain ⟨u, k1, k2⟩ := run_results (h5.turn ht) h6 hr
        obtain ⟨M2, q1, q2, q3⟩ := wrapUp_sound hI rfl h4 (h5.turn ht) (ws := s.ws) ⟨hfr.1 (Nat.le_refl _), hfr.2.2⟩ k2 (C.keep f)
        rw [← he] at q2 q3
        exact ⟨u, k1, M2, q1, q2, q3, h7.turn hI.base ht⟩
      rcases hx with rfl | rfl <;> cases e' <;> simp only [AX.is] at h1 <;> exact fin
    · cases ht : C.told f args with
      | some v0 =>
        simp only [absCall, ht] at e
        cases e
        exact .same _ _ _
      | none =>
      obtain ⟨fn, body, x, s, hfn, hb, hs, hx, rs, hr, he⟩ := parts ht e
      have hfr := absCode_fr ih2 (n0 := H.length) (absScope_fr ih2 n) body _ _ _ (Nat.le_refl _) hs
      have := wrapUp_fr (H := H) (n0 := H.length) rfl (ws := s.ws) ⟨hfr.1 (Nat.le_refl _), hfr.2.2⟩ (resV rs) (C.keep f)
      rw [← he] at this
      exact this
end Go.Proofs.YtkbdhjfjbkmkcaaGreat.Abs
