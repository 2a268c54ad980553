/- YtdkknhpdjcdmfaaGreatJC42: texts that follow each other, as one. -/
import Derived.Test.YtdkknhpdjcdmfaaGreatJC41
/- slices.Sort of a few numbers of a caller's. -/
set_option linter.unusedSimpArgs false
set_option linter.unusedVariables false
namespace Go.Proofs.YtdkknhpdjcdmfaaGreat.Abs
open Go Go.RowKit Go.Proofs

def oneI : Option (V × Heap × List Nat) → Bool
  | some (.one (.int .i64 _), [], []) => true
  | _ => false
theorem oneI_eq {r : Option (V × Heap × List Nat)} (h : oneI r = true) : ∃ m : Int, r = some (I m, [], []) := by
  unfold oneI at h
  split at h
  · exact ⟨_, rfl⟩
  · cases h
theorem bitlen (n : Nat) (hn : n ≤ 12) : ∃ m : Int, CX 168 [.one (.int .u64 (n : Nat))] [] = some (I m, [], []) := by
  have key : ∀ _k : Nat, oneI (absCall Tryz.prog cfg 40 168 [.one (.int .u64 (n : Nat))] []) = true → ∃ m : Int, CX 168 [.one (.int .u64 (n : Nat))] [] = some (I m, [], []) := fun _ e => by
    obtain ⟨m, e⟩ := oneI_eq e
    exact ⟨m, CI_run 40 e⟩
  refine key 0 ?_
  have hc : n = 0 ∨ n = 1 ∨ n = 2 ∨ n = 3 ∨ n = 4 ∨ n = 5 ∨ n = 6 ∨ n = 7 ∨ n = 8 ∨ n = 9 ∨ n = 10 ∨ n = 11 ∨ n = 12 := by omega
  clear key hn
  rcases hc with rfl | rfl | rfl | rfl | rfl | rfl | rfl | rfl | rfl | rfl | rfl | rfl | rfl <;> decide +kernel

def pqS (h : Heap) (k n : Nat) (ys : List Int) (m : Int) (ws : List Nat) : St :=
  ⟨[(2, I (n : Nat)), (1, I 0), (0, .one (.sl k 1 n 0 n)), (3, I m), (8, Bo true), (9, Bo true)], updH h k 1 (intsOf ys), ws⟩
theorem pq_loop (h : Heap) (k : Nat) (hk : k < h.length) (n : Nat) (hn : n ≤ 12) (ys : List Int) (hl : ys.length = n) (m : Int) :
    ∃ ys' ws', lpK 167 Tryz.f167 134 0 h (pqS h k n ys m []) = some (.ret, pqS h k n ys' m ws') ∧ ys'.length = n ∧ ∀ x, x ∈ ws' → x = k := by
  have key := loop_rel (P := Tryz.prog) (C := cfg) (sc := runScope Tryz.prog cfg 134 h.length (cfg.live 167) 0) (N := 134) (n0 := h.length) (K := cfg.live 167) (c := loopAt Tryz.f167 0)
    (fun _ : Unit => pqS h k n ys m []) (fun _ => True) (fun _ => 0)
    (fun s r => ∃ ys' ws', r = (.ret, pqS h k n ys' m ws') ∧ ys'.length = n ∧ ∀ x, x ∈ ws' → x = k) ?_ () trivial
  · obtain ⟨r, h1, ys', ws', rfl, h2⟩ := key
    exact ⟨ys', ws', h1, h2⟩
  rintro ⟨⟩ _
  obtain ⟨ys', ws, e, hl', hw⟩ := insort h k hk n (by omega) ys hl
  have hnI : ((n : Nat) : Int) ≤ 12 := by omega
  have hwk := wsOK_upd hk (ys := ys') hw
  refine .inr ⟨(.ret, pqS h k n ys' m (wsOf h.length ws)), ?_, nofun, ys', _, rfl, hl', fun x hx => hw x (wsOf_mem hx).1⟩
  simp (disch := (first | omega | simp (disch := omega) [hk, hl])) [round_eq, pqS, Tryz.f167, lv167, hnI, e, wrap_i64, -getElem?_pos, -tidy_eq]
  refine (tidy_callJ (n0 := h.length) (by simp) ?_ hwk).trans ?_ <;> simp (disch := omega) [plJ_cons, plJ_nil, hk]
theorem pdq (h : Heap) (k : Nat) (hk : k < h.length) (n : Nat) (hn : n ≤ 12) (ys : List Int) (hl : ys.length = n) (m : Int) :
    ∃ ys' ws, CX 167 [.one (.sl k 1 n 0 n), I 0, I (n : Nat), I m] (updH h k 1 (intsOf ys)) = some (.tup [], updH h k 1 (intsOf ys'), ws) ∧ ys'.length = n ∧ ∀ x, x ∈ ws → x = k := by
  obtain ⟨ys', ws', e, hl', hw⟩ := pq_loop h k hk n hn ys hl m
  have hwk := wsOK_upd hk (ys := ys') hw
  have hw0 : WsOK (updH h k 1 (intsOf ys)) [] := fun id hid => by simp at hid
  refine ⟨ys', wsOf h.length ws', CI_of Tryz.func167 rfl 0 ?_, hl', fun x hx => hw x (wsOf_mem hx).1⟩
  have hkp : cfg.keep 167 = 0 := rfl
  simp [pqS, lpK, lv167, Tryz.f167] at e
  simp (disch := (first | omega | simp (disch := omega) [hk])) [Tryz.f167, lv167, hk, wrap_i64, -getElem?_pos, -tidy_eq, -wrapUp_zero]
  rw [tidy_callJ (n0 := h.length) (by simp) ?_ hw0]
  · simp (disch := (first | omega | simp (disch := omega) [hk])) [e, hkp, -tidy_eq, -wrapUp_zero]
    have := wrap_call (g := []) (H := updH h k 1 (intsOf ys')) (n0 := h.length) (by simp) hwk
    simpa using this
  · simp (disch := omega) [plJ_cons, plJ_nil, hk]

/-- A few numbers of a caller's, sorted. -/
theorem sort (h : Heap) (k : Nat) (hk : k < h.length) (n : Nat) (hn : n ≤ 12) (ys : List Int) (hl : ys.length = n) :
    ∃ ys' ws, CX 115 [.one (.sl k 1 n 0 n)] (updH h k 1 (intsOf ys)) = some (.tup [], updH h k 1 (intsOf ys'), ws) ∧ ys'.length = n ∧ ∀ x, x ∈ ws → x = k := by
  obtain ⟨m, e1⟩ := bitlen n hn
  obtain ⟨ys', ws', e, hl', hw⟩ := pdq h k hk n hn ys hl m
  have hwk := wsOK_upd hk (ys := ys') hw
  have hnI : (n : Int) < 18446744073709551616 := by omega
  have hwr : IntKind.u64.wrap ((n : Nat) : Int) = (n : Int) := by unfold IntKind.wrap; simp [IntKind.bits]; omega
  refine ⟨ys', wsOf h.length ws', CI_of Tryz.func115 rfl 0 ?_, hl', fun x hx => hw x (wsOf_mem hx).1⟩
  have hkp : cfg.keep 115 = 0 := rfl
  simp (disch := (first | omega | simp (disch := omega) [hk])) [Tryz.f115, hkp, e1, e, hwr, wrap_i64, -getElem?_pos, -tidy_eq, -wrapUp_zero]
  have := wrap_call (g := []) (H := updH h k 1 (intsOf ys')) (n0 := h.length) (by simp) hwk
  simpa using this
end Go.Proofs.YtdkknhpdjcdmfaaGreat.Abs

/- The state of dom.Of, in order. -/
set_option linter.unusedSimpArgs false
set_option linter.unusedVariables false
namespace Go.Proofs.YtdkknhpdjcdmfaaGreat.Abs
open Go Go.RowKit Go.Proofs

abbrev K61 : List (Nat × Kd) := [(1, .b []), (3, .p), (35, .p), (34, .p), (9, .s 1 []), (6, .p), (67, .p), (66, .p), (65, .p), (8, .p), (11, .p), (76, .p), (75, .p), (74, .p), (12, .p), (7, .p), (116, .p), (115, .p), (114, .p), (174, .p), (173, .p), (172, .p), (4, .b2 [(2, []), (2, []), (2, [2])])]
theorem lvOf : cfg.live 61 = K61 := rfl

def DomK (T : Tmps) (v1 v9 v4 vx : V) : List (Nat × Kd) → Prop
  | [] => True
  | e :: K => (match e.2 with
    | .p => plV (tget T e.1) = true ∨ tget T e.1 = vx
    | .b _ => e.2 = .b [] ∧ tget T e.1 = v1
    | .s _ _ => e.2 = .s 1 [] ∧ tget T e.1 = v9
    | .b2 _ => e.2 = .b2 [(2, []), (2, []), (2, [2])] ∧ tget T e.1 = v4
    | _ => False) ∧ DomK T v1 v9 v4 vx K
theorem domK_p (T : Tmps) (v1 v9 v4 vx : V) (i : Nat) (K : List (Nat × Kd)) : DomK T v1 v9 v4 vx ((i, .p) :: K) = ((plV (tget T i) = true ∨ tget T i = vx) ∧ DomK T v1 v9 v4 vx K) := rfl
theorem domK_b (T : Tmps) (v1 v9 v4 vx : V) (i : Nat) (ks : List Nat) (K : List (Nat × Kd)) : DomK T v1 v9 v4 vx ((i, .b ks) :: K) = ((Kd.b ks = .b [] ∧ tget T i = v1) ∧ DomK T v1 v9 v4 vx K) := rfl
theorem domK_s (T : Tmps) (v1 v9 v4 vx : V) (i e : Nat) (ks : List Nat) (K : List (Nat × Kd)) : DomK T v1 v9 v4 vx ((i, .s e ks) :: K) = ((Kd.s e ks = .s 1 [] ∧ tget T i = v9) ∧ DomK T v1 v9 v4 vx K) := rfl
theorem domK_b2 (T : Tmps) (v1 v9 v4 vx : V) (i : Nat) (ks : List (Nat × List Nat)) (K : List (Nat × Kd)) : DomK T v1 v9 v4 vx ((i, .b2 ks) :: K) = ((Kd.b2 ks = .b2 [(2, []), (2, []), (2, [2])] ∧ tget T i = v4) ∧ DomK T v1 v9 v4 vx K) := rfl
theorem domK_nil (T : Tmps) (v1 v9 v4 vx : V) : DomK T v1 v9 v4 vx [] = True := rfl
theorem domK_keep {H : Heap} {n0 m : Nat} {T : Tmps} {v1 v9 v4 vx : V} (h1 : keepV H n0 m v1 = true) (h9 : keepV H n0 m v9 = true) (h4 : keepV H n0 m v4 = true) (hx : keepV H n0 m vx = true) (o1 : KdOK H n0 v1 (.b [])) (o9 : KdOK H n0 v9 (.s 1 [])) (o4 : KdOK H n0 v4 (.b2 [(2, []), (2, []), (2, [2])])) :
    ∀ {K : List (Nat × Kd)}, DomK T v1 v9 v4 vx K → KeepK H n0 m T K
  | [], _ => trivial
  | (i, kd) :: K, hK => by
    refine ⟨?_, domK_keep h1 h9 h4 hx o1 o9 o4 hK.2⟩
    have := hK.1
    cases kd with
    | p => exact ⟨this.elim plV_keep fun e => by simp only at e ⊢; rw [e]; exact hx, trivial⟩
    | b ks => obtain ⟨e1, e2⟩ := this; simp only at e1 e2 ⊢; rw [e2, e1]; exact ⟨h1, o1⟩
    | s e ks => obtain ⟨e1, e2⟩ := this; simp only at e1 e2 ⊢; rw [e2, e1]; exact ⟨h9, o9⟩
    | b2 ks => obtain ⟨e1, e2⟩ := this; simp only at e1 e2 ⊢; rw [e2, e1]; exact ⟨h4, o4⟩
    | m => exact this.elim
    | r i => exact this.elim
    | x i => exact this.elim

/-- The objects of it: the function, what the links were, the tree, its links, depths, kids. -/
def domH (n0 n : Nat) (bf bw : Option AO) (up dp : List Int) (kids : List (List Int)) : Heap :=
  bf :: bw :: some (.row 3 [[.sl (n0 + 3) 1 n 0 n, .sl (n0 + 4) 1 n 0 n, .sl (n0 + 5) 1 n 0 n]]) :: some (.row 1 (intsOf up)) :: some (.row 1 (intsOf dp)) :: some (.row 1 (outR n0 6 kids)) :: fam kids
/-- What the links were: not told yet, or a slice of numbers. -/
def WasOK (n0 n : Nat) (v9 : V) (bw : Option AO) : Prop := (v9 = .junk ∧ bw = none) ∨ (v9 = .one (.sl (n0 + 1) 1 n 0 n) ∧ ∃ ws, bw = some (.row 1 (intsOf ws)))
theorem keepR_ints (H : Heap) (n0 m : Nat) (xs : List Int) : keepR H n0 m (intsOf xs) = true := by
  unfold keepR intsOf
  rw [List.all_map]
  exact List.all_eq_true.2 fun x _ => rfl

theorem tidy_dom {h g : Heap} {T : Tmps} {ws : List Nat} {n : Nat} {cf : List Leaf} {v9 : V} {bw : Option AO} {up dp : List Int} {kids : List (List Int)} (hkn : kids.length = n) (hcf : cf.all plL = true) (hw9 : WasOK h.length n v9 bw)
    (hK : DomK T (.one (.ptr h.length 1 0 0)) v9 (.one (.ptr (h.length + 2) 1 0 0)) (.one (.sl (h.length + 5) 1 n 0 n)) K61) (hw : wsOf h.length ws = []) :
    tidy h.length K61 ⟨T, h ++ (domH h.length n (some (.row 5 [cf])) bw up dp kids ++ g), ws⟩ = ⟨K61.map fun e => (e.1, tget T e.1), h ++ domH h.length n (some (.row 5 [cf])) bw up dp kids, []⟩ := by
  subst hkn
  have hT1 : tget T 1 = .one (.ptr h.length 1 0 0) := hK.1.2
  have hT9 : tget T 9 = v9 := hK.2.2.2.2.1.2
  have hT4 : tget T 4 = .one (.ptr (h.length + 2) 1 0 0) := hK.2.2.2.2.2.2.2.2.2.2.2.2.2.2.2.2.2.2.2.2.2.2.1.2
  have at2 : (h ++ (domH h.length kids.length (some (.row 5 [cf])) bw up dp kids ++ g))[h.length + 2]? = some (some (.row 3 [[.sl (h.length + 3) 1 kids.length 0 kids.length, .sl (h.length + 4) 1 kids.length 0 kids.length, .sl (h.length + 5) 1 kids.length 0 kids.length]])) := by
    rw [List.getElem?_append_right (by omega), Nat.add_sub_cancel_left]; rfl
  have at5 : (h ++ (domH h.length kids.length (some (.row 5 [cf])) bw up dp kids ++ g))[h.length + 5]? = some (some (.row 1 (outR h.length 6 kids))) := by
    rw [List.getElem?_append_right (by omega), Nat.add_sub_cancel_left]; rfl
  have hin : insideIds (h ++ (domH h.length kids.length (some (.row 5 [cf])) bw up dp kids ++ g)) h.length [2] (some (h.length + 5)) = idsR h.length 6 kids.length := by
    simp only [insideIds, at5]
    exact cells_outR (Nat.le_refl _) 6 kids
  have own : ∀ j, ownId h.length (.sl (h.length + j) 1 kids.length 0 kids.length) = some (h.length + j) := fun j => by simp [ownId, refId]
  have hin2 : insideIds2 (h ++ (domH h.length kids.length (some (.row 5 [cf])) bw up dp kids ++ g)) h.length [(2, []), (2, []), (2, [2])] (some (h.length + 2)) = some (h.length + 3) :: some (h.length + 4) :: some (h.length + 5) :: idsR h.length 6 kids.length := by
    simp only [insideIds2, at2, List.flatMap_cons, List.flatMap_nil, cellIds2, own, hin]
    simp [insideIds]
  have hr4 : rootOf h.length (.one (.ptr (h.length + 2) 1 0 0)) = some (h.length + 2) := by simp [rootOf, ownId, refId]
  have hr1 : rootOf h.length (.one (.ptr h.length 1 0 0)) = some h.length := by simp [rootOf, ownId, refId]
  have hL : kdL (h ++ (domH h.length kids.length (some (.row 5 [cf])) bw up dp kids ++ g)) h.length T K61 = some h.length :: rootOf h.length v9 :: some (h.length + 2) :: some (h.length + 3) :: some (h.length + 4) :: some (h.length + 5) :: idsR h.length 6 kids.length := by
    simp only [kdL, kdIds, hT1, hT9, hT4, hr1, hr4, hin2]
    simp [insideIds]
  have hc : Canon h.length 0 (domH h.length kids.length (some (.row 5 [cf])) bw up dp kids ++ g) (some h.length :: rootOf h.length v9 :: some (h.length + 2) :: some (h.length + 3) :: some (h.length + 4) :: some (h.length + 5) :: idsR h.length 6 kids.length) := by
    refine ⟨rfl, rfl, ?_⟩
    have tl : Canon h.length 2 (some (AO.row 3 [[.sl (h.length + 3) 1 kids.length 0 kids.length, .sl (h.length + 4) 1 kids.length 0 kids.length, .sl (h.length + 5) 1 kids.length 0 kids.length]]) :: some (.row 1 (intsOf up)) :: some (.row 1 (intsOf dp)) :: some (.row 1 (outR h.length 6 kids)) :: (fam kids ++ g)) (some (h.length + 2) :: some (h.length + 3) :: some (h.length + 4) :: some (h.length + 5) :: idsR h.length 6 kids.length) :=
      ⟨rfl, rfl, rfl, rfl, rfl, rfl, rfl, rfl, canon_fam _ _ _ _⟩
    rcases hw9 with ⟨rfl, rfl⟩ | ⟨rfl, ws, rfl⟩
    · exact ⟨rfl, tl⟩
    · have : rootOf h.length (.one (.sl (h.length + 1) 1 kids.length 0 kids.length)) = some (h.length + 1) := by simp [rootOf, ownId, refId]
      rw [this]
      exact ⟨rfl, rfl, tl⟩
  have hlen : (some h.length :: rootOf h.length v9 :: some (h.length + 2) :: some (h.length + 3) :: some (h.length + 4) :: some (h.length + 5) :: idsR h.length 6 kids.length).length = kids.length + 6 := by simp
  have hobj : ∀ i, 2 ≤ i → i < kids.length + 6 → isObj (h ++ (domH h.length kids.length (some (.row 5 [cf])) bw up dp kids ++ g))[h.length + i]? = true := by
    intro i h2 hi
    rw [List.getElem?_append_right (by omega), Nat.add_sub_cancel_left]
    by_cases h6 : i < 6
    · have : i = 2 ∨ i = 3 ∨ i = 4 ∨ i = 5 := by omega
      rcases this with rfl | rfl | rfl | rfl <;> rfl
    · obtain ⟨j, rfl⟩ : ∃ j, i = j + 6 := ⟨i - 6, by omega⟩
      show isObj (fam kids ++ g)[j]? = true
      rw [List.getElem?_append_left (by simp; omega), fam_get, List.getElem?_eq_getElem (by omega)]
      rfl
  have hobj0 : isObj (h ++ (domH h.length kids.length (some (.row 5 [cf])) bw up dp kids ++ g))[h.length]? = true := by
    rw [List.getElem?_append_right (Nat.le_refl _), Nat.sub_self]; rfl
  have hk9 : keepV (h ++ (domH h.length kids.length (some (.row 5 [cf])) bw up dp kids ++ g)) h.length (kids.length + 6) v9 = true := by
    rcases hw9 with ⟨rfl, rfl⟩ | ⟨rfl, ws, rfl⟩
    · rfl
    · have : isObj (h ++ (domH h.length kids.length (some (.row 5 [cf])) (some (.row 1 (intsOf ws))) up dp kids ++ g))[h.length + 1]? = true := by
        rw [List.getElem?_append_right (by omega), Nat.add_sub_cancel_left]; rfl
      simp only [keepV, keepL, this]
      simp
  have key := tidy_keep (ws := ws) hL hc (by
    rw [hlen]
    refine domK_keep (v1 := .one (.ptr h.length 1 0 0)) (v9 := v9) (v4 := .one (.ptr (h.length + 2) 1 0 0)) (vx := .one (.sl (h.length + 5) 1 kids.length 0 kids.length)) ?_ hk9 ?_ ?_ ?_ ?_ ?_ hK
    · simp only [keepV, keepL, hobj0]; simp
    · simp only [keepV, keepL, hobj 2 (by omega) (by omega)]; simp
    · simp only [keepV, keepL, hobj 5 (by omega) (by omega)]; simp
    · simp only [KdOK, hr1]
      trivial
    · rcases hw9 with ⟨rfl, rfl⟩ | ⟨rfl, ws, rfl⟩
      · exact ⟨by simp, trivial⟩
      · refine ⟨by simp, ?_⟩
        have : rootOf h.length (.one (.sl (h.length + 1) 1 kids.length 0 kids.length)) = some (h.length + 1) := by simp [rootOf, ownId, refId]
        rw [this]; trivial
    · simp only [KdOK, hr4]
      refine ⟨3, _, at2, fun cs hcs => ?_⟩
      simp at hcs
      subst hcs
      refine ⟨⟨⟨by simp, by rw [own]; trivial⟩, ⟨by simp, by rw [own]; trivial⟩, ⟨by simp, ?_⟩, trivial⟩, by simp⟩
      rw [own]
      exact ⟨1, _, at5, fun cs hcs => noNil_outR 6 kids cs hcs⟩) (by
    rw [hlen]
    show KeepT _ _ _ (kids.length + 6) _
    refine ⟨?_, ?_, ?_, keepR_ints _ _ _ _, keepR_ints _ _ _ _, ?_, ?_⟩
    · show keepR _ _ _ [cf] = true
      simp only [keepR, List.all_cons, List.all_nil, Bool.and_true, keepC]
      exact List.all_eq_true.2 fun l hl => plL_keep (List.all_eq_true.1 hcf l hl)
    · rcases hw9 with ⟨rfl, rfl⟩ | ⟨rfl, ws, rfl⟩
      · rfl
      · exact keepR_ints _ _ _ _
    · show keepR _ _ _ _ = true
      simp only [keepR, List.all_cons, List.all_nil, Bool.and_true, keepC, keepL, hobj 3 (by omega) (by omega), hobj 4 (by omega) (by omega), hobj 5 (by omega) (by omega)]
      simp
    · exact keep_outR 6 kids fun i hi => ⟨by omega, hobj (6 + i) (by omega) (by omega)⟩
    · exact keep_fam g kids) hw
  rw [key, hlen]
  congr 2
  have : (domH h.length kids.length (some (.row 5 [cf])) bw up dp kids).length = kids.length + 6 := by simp [domH]
  rw [← this, List.take_left']
  rfl
theorem tidy_dom' {h : Heap} {T : Tmps} {ws : List Nat} {n : Nat} {cf : List Leaf} {v9 : V} {bw : Option AO} {up dp : List Int} {kids : List (List Int)} (hkn : kids.length = n) (hcf : cf.all plL = true) (hw9 : WasOK h.length n v9 bw)
    (hK : DomK T (.one (.ptr h.length 1 0 0)) v9 (.one (.ptr (h.length + 2) 1 0 0)) (.one (.sl (h.length + 5) 1 n 0 n)) K61) (hw : wsOf h.length ws = []) :
    tidy h.length K61 ⟨T, h ++ domH h.length n (some (.row 5 [cf])) bw up dp kids, ws⟩ = ⟨K61.map fun e => (e.1, tget T e.1), h ++ domH h.length n (some (.row 5 [cf])) bw up dp kids, []⟩ := by
  have := tidy_dom (g := []) (up := up) (dp := dp) hkn hcf hw9 hK hw
  rwa [List.append_nil] at this
end Go.Proofs.YtdkknhpdjcdmfaaGreat.Abs

/- The state of dom.Of, just made. -/
set_option linter.unusedSimpArgs false
set_option linter.unusedVariables false
namespace Go.Proofs.YtdkknhpdjcdmfaaGreat.Abs
open Go Go.RowKit Go.Proofs

def dom0H (n0 n : Nat) (bf : Option AO) (up dp : List Int) : Heap :=
  [bf, some (.row 1 (intsOf up)), some (.row 1 (intsOf dp)), some (.row 1 (List.replicate n [.nils])), some (.row 3 [[.sl (n0 + 1) 1 n 0 n, .sl (n0 + 2) 1 n 0 n, .sl (n0 + 3) 1 n 0 n]])]
theorem mapO_ints {H : Heap} {n0 : Nat} {L : List (Option Nat)} (xs : List Int) : mapO (mapO (fzT H n0 L)) (intsOf xs) = some (intsOf xs) :=
  mapO_id fun cs hcs => by
    simp only [intsOf, List.mem_map] at hcs
    obtain ⟨x, _, rfl⟩ := hcs
    rfl

theorem tidy_dom0 {h : Heap} {T : Tmps} {ws : List Nat} {n : Nat} {cf : List Leaf} {up dp : List Int} (hcf : cf.all plL = true)
    (hK : DomK T (.one (.ptr h.length 1 0 0)) .junk (.one (.ptr (h.length + 4) 1 0 0)) .junk K61) (hw : wsOf h.length ws = []) :
    tidy h.length K61 ⟨T, h ++ dom0H h.length n (some (.row 5 [cf])) up dp, ws⟩ = ⟨K61.map fun e => (e.1, if e.1 = 4 then .one (.ptr (h.length + 2) 1 0 0) else tget T e.1), h ++ domH h.length n (some (.row 5 [cf])) none up dp (List.replicate n []), []⟩ := by
  obtain ⟨⟨_, hT1⟩, p3, p35, p34, ⟨_, hT9⟩, p6, p67, p66, p65, p8, p11, p76, p75, p74, p12, p7, p116, p115, p114, p174, p173, p172, ⟨_, hT4⟩, _⟩ := hK
  simp only at hT1 hT9 hT4 p3 p35 p34 p6 p67 p66 p65 p8 p11 p76 p75 p74 p12 p7 p116 p115 p114 p174 p173 p172
  have pj : ∀ {v : V}, plV v = true ∨ v = .junk → plV v = true := fun h => h.elim id fun e => by rw [e]; rfl
  replace p3 := pj p3
  replace p35 := pj p35
  replace p34 := pj p34
  replace p6 := pj p6
  replace p67 := pj p67
  replace p66 := pj p66
  replace p65 := pj p65
  replace p8 := pj p8
  replace p11 := pj p11
  replace p76 := pj p76
  replace p75 := pj p75
  replace p74 := pj p74
  replace p12 := pj p12
  replace p7 := pj p7
  replace p116 := pj p116
  replace p115 := pj p115
  replace p114 := pj p114
  replace p174 := pj p174
  replace p173 := pj p173
  replace p172 := pj p172
  generalize hH : h ++ dom0H h.length n (some (.row 5 [cf])) up dp = H
  have at0 : H[h.length]? = some (some (.row 5 [cf])) := by
    rw [← hH, List.getElem?_append_right (by omega), Nat.sub_self]; rfl
  have at1 : H[h.length + 1]? = some (some (.row 1 (intsOf up))) := by
    rw [← hH, List.getElem?_append_right (by omega), Nat.add_sub_cancel_left]; rfl
  have at2 : H[h.length + 2]? = some (some (.row 1 (intsOf dp))) := by
    rw [← hH, List.getElem?_append_right (by omega), Nat.add_sub_cancel_left]; rfl
  have at3 : H[h.length + 3]? = some (some (.row 1 (List.replicate n [.nils]))) := by
    rw [← hH, List.getElem?_append_right (by omega), Nat.add_sub_cancel_left]; rfl
  have at4 : H[h.length + 4]? = some (some (.row 3 [[.sl (h.length + 1) 1 n 0 n, .sl (h.length + 2) 1 n 0 n, .sl (h.length + 3) 1 n 0 n]])) := by
    rw [← hH, List.getElem?_append_right (by omega), Nat.add_sub_cancel_left]; rfl
  have own : ∀ j, ownId h.length (.sl (h.length + j) 1 n 0 n) = some (h.length + j) := fun j => by simp [ownId, refId]
  have hr4 : rootOf h.length (.one (.ptr (h.length + 4) 1 0 0)) = some (h.length + 4) := by simp [rootOf, ownId, refId]
  have hr1 : rootOf h.length (.one (.ptr h.length 1 0 0)) = some h.length := by simp [rootOf, ownId, refId]
  have hr9 : rootOf h.length .junk = none := rfl
  have hfl : ∀ n, (List.replicate n [Leaf.nils]).flatMap (cellIds h.length [2]) = List.replicate n none := by
    intro n
    induction n with
    | zero => rfl
    | succ n ih => rw [List.replicate_succ, List.flatMap_cons, ih]; simp [cellIds, ownId, refId, List.replicate_succ]
  generalize hLd : (some h.length :: none :: some (h.length + 4) :: some (h.length + 1) :: some (h.length + 2) :: some (h.length + 3) :: List.replicate n none) = L
  have hL : kdL H h.length T K61 = L := by
    rw [← hLd]
    simp only [kdL, kdIds, hT1, hT9, hT4, hr1, hr4, hr9, insideIds2, at4, List.flatMap_cons, List.flatMap_nil, cellIds2, own, insideIds, at3, hfl]
    simp
  have hok : okL h.length L = true := by
    have h1 : ∀ n, okL h.length (List.replicate n none) = true := by
      intro n
      induction n with
      | zero => rfl
      | succ n ih => rw [List.replicate_succ]; exact ih
    rw [← hLd]
    simp only [okL, h1]
    simp
  have pl0 : placeOf h.length L h.length = some h.length := by rw [← hLd]; simp [placeOf, placeAt]
  have pl1 : placeOf (h.length + 1) L h.length = some (h.length + 3) := by rw [← hLd]; simp [placeOf, placeAt]
  have pl2 : placeOf (h.length + 2) L h.length = some (h.length + 4) := by rw [← hLd]; simp [placeOf, placeAt]
  have pl3 : placeOf (h.length + 3) L h.length = some (h.length + 5) := by rw [← hLd]; simp [placeOf, placeAt]
  have pl4 : placeOf (h.length + 4) L h.length = some (h.length + 2) := by rw [← hLd]; simp [placeOf, placeAt]
  have fz0 : fzV H h.length L (.one (.ptr h.length 1 0 0)) = some (.one (.ptr h.length 1 0 0)) := by
    show (fzT _ _ _ _).map V.one = _
    rw [fzT_ptr, if_pos (by omega), pl0]; rfl
  have fz4 : fzV H h.length L (.one (.ptr (h.length + 4) 1 0 0)) = some (.one (.ptr (h.length + 2) 1 0 0)) := by
    show (fzT _ _ _ _).map V.one = _
    rw [fzT_ptr, if_pos (by omega), pl4]; rfl
  have fs1 : fzT H h.length L (.sl (h.length + 1) 1 n 0 n) = some (.sl (h.length + 3) 1 n 0 n) := by rw [fzT_sl, if_pos (by omega), pl1]; rfl
  have fs2 : fzT H h.length L (.sl (h.length + 2) 1 n 0 n) = some (.sl (h.length + 4) 1 n 0 n) := by rw [fzT_sl, if_pos (by omega), pl2]; rfl
  have fs3 : fzT H h.length L (.sl (h.length + 3) 1 n 0 n) = some (.sl (h.length + 5) 1 n 0 n) := by rw [fzT_sl, if_pos (by omega), pl3]; rfl
  have ob0 : objOf H h.length L (some h.length) = some (some (.row 5 [cf])) := by
    have : mapO (fzT H h.length L) cf = some cf := mapO_id fun l hl => plL_fz (List.all_eq_true.1 hcf l hl)
    simp only [objOf, at0, fzO, mapO, this]
    rfl
  have ob1 : objOf H h.length L (some (h.length + 1)) = some (some (.row 1 (intsOf up))) := by
    simp only [objOf, at1, fzO, mapO_ints]; rfl
  have ob2 : objOf H h.length L (some (h.length + 2)) = some (some (.row 1 (intsOf dp))) := by
    simp only [objOf, at2, fzO, mapO_ints]; rfl
  have hrows : ∀ (n p : Nat), newRows H h.length L [2] p (List.replicate n [.nils]) = some (outR h.length p (List.replicate n []), fam (List.replicate n [])) := by
    intro n
    induction n with
    | zero => intro p; rfl
    | succ n ih =>
      intro p
      rw [List.replicate_succ]
      simp only [newRows, newCells, List.length_cons, List.length_nil, ih]
      simp [outR, fam, List.replicate_succ, mapO]
  have hnew : newRoot2 H h.length L 2 [(2, []), (2, []), (2, [2])] (some (h.length + 4)) = some (some (.row 3 [[.sl (h.length + 3) 1 n 0 n, .sl (h.length + 4) 1 n 0 n, .sl (h.length + 5) 1 n 0 n]]) :: some (.row 1 (intsOf up)) :: some (.row 1 (intsOf dp)) :: some (.row 1 (outR h.length 6 (List.replicate n []))) :: fam (List.replicate n [])) := by
    simp only [newRoot2, at4, newRows2, newCells2, fs1, fs2, fs3, own, newRoot, ob1, ob2, at3, hrows, mapO, List.length_cons, List.length_nil]
    simp
  have hall : kdAll H h.length L T 0 K61 = some (K61.map fun e => (e.1, if e.1 = 4 then .one (.ptr (h.length + 2) 1 0 0) else tget T e.1), domH h.length n (some (.row 5 [cf])) none up dp (List.replicate n [])) := by
    have fj : fzV H h.length L .junk = some .junk := rfl
    simp only [kdAll, kdNew, hT1, hT9, hT4, fz0, fz4, fj, hr1, hr9, hr4, newRoot, ob0, plV_fz p3, plV_fz p35, plV_fz p34, plV_fz p6, plV_fz p67, plV_fz p66, plV_fz p65, plV_fz p8, plV_fz p11, plV_fz p76, plV_fz p75, plV_fz p74, plV_fz p12, plV_fz p7, plV_fz p116, plV_fz p115, plV_fz p114, plV_fz p174, plV_fz p173, plV_fz p172, List.length_cons, List.length_nil, Nat.zero_add, Nat.add_zero, hnew]
    simp [domH, hT1, hT9]
  unfold tidy tidyO
  simp only [hL, hok, if_true, hall, hw, fzH]
  rw [← hH, List.take_left']
  rfl
end Go.Proofs.YtdkknhpdjcdmfaaGreat.Abs

/- dom.Of: the loops that tell links. -/
set_option linter.unusedSimpArgs false
set_option linter.unusedVariables false
namespace Go.Proofs.YtdkknhpdjcdmfaaGreat.Abs
open Go Go.RowKit Go.Proofs

def copK (s : Nat) (H : Heap) (id sz : Nat) : Option (Nat × List (List Leaf)) → Option (List (List Leaf)) → Res
  | some r, some xs => if r.1 = s ∧ sz ≠ 0 then (if xs.length = sz then some (.one (.int .i64 (sz : Nat)), H.set id (some (.row s xs)), [id]) else
      some (.one (.int .i64 (Nat.min xs.length sz : Nat)), H.set id (some (.row s (xs.take (Nat.min xs.length sz) ++ r.2.drop (Nat.min xs.length sz)))), [id])) else none
  | _, _ => none
theorem copy_sl {P : Program} {H : Heap} {t : TypeId} {s b : Nat} {z : List Leaf} (E : ElemT P t s b z) (x : V) (id sz : Nat) : copyV P H t t (.one (.sl id s sz 0 sz)) x = copK s H id sz (rowAt H id sz) (srcOf P H s t x) := by
  obtain ⟨⟨e, h1, h2, h3⟩, h4, h9, h10⟩ := E
  obtain ⟨i, h5, h6⟩ := Option.map_eq_some_iff.1 h2
  obtain ⟨h7, h8⟩ := Prod.mk.inj h6
  simp only [copyV, h1, h5, h7, h8, Option.bind_some]
  cases hx : srcOf P H s t x with
  | none => cases rowAt H id sz <;> simp [copK]
  | some xs =>
    cases hr : rowAt H id sz with
    | none => simp [copK]
    | some r =>
      obtain ⟨g1, g2⟩ := rowAt_some hr
      simp only [copK, Option.bind_some]
      by_cases hr1 : r.1 = s
      · by_cases hz : sz = 0
        · simp [hr1, hz]
        · by_cases hl : xs.length = sz
          · simp [hr1, hz, hl, Nat.min_self, g2]
            rw [List.drop_eq_nil_of_le (by rw [g2]; exact Nat.le_refl _), List.append_nil, ← hl, List.take_length]
          · simp [hr1, hz, hl]
      · simp [hr1]
theorem cop41 {H : Heap} (x : V) (id sz : Nat) : copyV Tryz.prog H 41 41 (.one (.sl id 1 sz 0 sz)) x = copK 1 H id sz (rowAt H id sz) (srcOf Tryz.prog H 1 41 x) := copy_sl E41 x id sz
theorem op_copy {P : Program} {cf : CF} {slot : Option Nat} {t : Tmps} {h : Heap} {dst : Option Nat} {ty : TypeId} {pos : String} {after : Array Edge} {guard : Option (Nat × Bool)} (x y : Operand) (a b : TypeId) :
    absOp P cf slot t h ⟨dst, .call { callee := .builtin .copy, args := #[x, y], argTypes := #[a, b] }, ty, pos, after, guard⟩ = copyV P h a b (ev t x) (ev t y) := rfl

structure DT where
  v35 : V
  v34 : V
  v6 : V
  v67 : V
  v66 : V
  v65 : V
  v8 : V
  v11 : V
  v76 : V
  v75 : V
  v74 : V
  v12 : V
  v7 : V
  v116 : V
  v115 : V
  v114 : V
  v174 : V
  v173 : V
  v172 : V
def domT (n0 n : Nat) (v9 : V) (d : DT) : Tmps :=
  [(1, .one (.ptr n0 1 0 0)), (3, I (n : Nat)), (35, d.v35), (34, d.v34), (9, v9), (6, d.v6), (67, d.v67), (66, d.v66), (65, d.v65), (8, d.v8), (11, d.v11), (76, d.v76), (75, d.v75), (74, d.v74), (12, d.v12), (7, d.v7), (116, d.v116), (115, d.v115), (114, d.v114), (174, d.v174), (173, d.v173), (172, d.v172), (4, .one (.ptr (n0 + 2) 1 0 0))]
def domS (h : Heap) (f : Fn) (v9 : V) (bw : Option AO) (up dp : List Int) (kids : List (List Int)) (d : DT) : St :=
  ⟨domT h.length f.blocks.length v9 d, h ++ domH h.length f.blocks.length (some (.row 5 [encFn f])) bw up dp kids, []⟩
def jT : DT := ⟨.junk, .junk, .junk, .junk, .junk, .junk, .junk, .junk, .junk, .junk, .junk, .junk, .junk, .junk, .junk, .junk, .junk, .junk, .junk⟩

theorem encFn_pl (f : Fn) : (encFn f).all plL = true := rfl

/-- Links, none told: so far. -/
theorem of_fill (h : Heap) (f : Fn) (hn : f.blocks.length ≤ 1000) (dp : List Int) (kids : List (List Int)) (hkn : kids.length = f.blocks.length) :
    lpK 61 Tryz.f61 182 0 h (domS h f .junk none (negs f.blocks.length 0) dp kids { jT with v35 := I (0 : Nat), v34 := I (f.blocks.length : Nat) }) = some (.exit 0, domS h f .junk none (List.replicate f.blocks.length (-1)) dp kids { jT with v35 := I (f.blocks.length : Nat), v34 := I (f.blocks.length : Nat) }) := by
  have key := loop_fun (P := Tryz.prog) (C := cfg) (sc := runScope Tryz.prog cfg 182 h.length (cfg.live 61) 0) (N := 182) (n0 := h.length) (K := cfg.live 61) (c := loopAt Tryz.f61 0)
    (fun i : Nat => domS h f .junk none (negs f.blocks.length i) dp kids { jT with v35 := I (i : Nat), v34 := I (f.blocks.length : Nat) }) (fun i => i ≤ f.blocks.length) (fun i => f.blocks.length - i)
    (fun _ => (.exit 0, domS h f .junk none (List.replicate f.blocks.length (-1)) dp kids { jT with v35 := I (f.blocks.length : Nat), v34 := I (f.blocks.length : Nat) })) ?_ 0 (Nat.zero_le _)
  · exact key
  intro i hi
  have hl := negs_length hi
  rcases Nat.lt_or_ge i f.blocks.length with hlt | hge
  · have hltI : ((i : Nat) : Int) < ((f.blocks.length : Nat) : Int) := by omega
    obtain ⟨y, hy⟩ : ∃ y, (negs f.blocks.length i)[i]? = some y := ⟨_, List.getElem?_eq_getElem (by omega)⟩
    refine .inl ⟨i + 1, ?_, hlt, by omega, rfl⟩
    simp (disch := (first | omega | simp (disch := omega) [hl])) [round_eq, domS, domT, jT, domH, encFn, Tryz.f61, lvOf, hlt, hltI, hl, hy, wrap_i64, intsOf_set, negs_set hlt, -getElem?_pos, -tidy_eq]
    refine (tidy_dom' hkn ?_ (.inl ⟨rfl, rfl⟩) ?_ ?_).trans ?_ <;> simp (disch := omega) [domK_p, domK_b, domK_s, domK_b2, domK_nil, domH]
  · have : i = f.blocks.length := by omega
    subst this
    refine .inr ⟨?_, nofun⟩
    have hz : negs f.blocks.length f.blocks.length = List.replicate f.blocks.length (-1) := by simp [negs]
    simp (disch := (first | omega | simp (disch := omega) [hl])) [round_eq, domS, domT, jT, domH, encFn, Tryz.f61, lvOf, hz, -getElem?_pos, -tidy_eq]
    refine (tidy_dom' hkn ?_ (.inl ⟨rfl, rfl⟩) ?_ ?_).trans ?_ <;> simp (disch := omega) [domK_p, domK_b, domK_s, domK_b2, domK_nil, domH]
end Go.Proofs.YtdkknhpdjcdmfaaGreat.Abs

/- dom.Of: the last one ahead of all from which a block is gone to. -/
set_option linter.unusedSimpArgs false
set_option linter.unusedVariables false
namespace Go.Proofs.YtdkknhpdjcdmfaaGreat.Abs
open Go Go.RowKit Go.Proofs

structure DT.Ok (d : DT) : Prop where
  o35 : plV d.v35 = true
  o34 : plV d.v34 = true
  o6 : plV d.v6 = true
  o67 : plV d.v67 = true
  o66 : plV d.v66 = true
  o65 : plV d.v65 = true
  o8 : plV d.v8 = true
  o11 : plV d.v11 = true
  o76 : plV d.v76 = true
  o75 : plV d.v75 = true
  o74 : plV d.v74 = true
  o12 : plV d.v12 = true
  o7 : plV d.v7 = true
  o116 : plV d.v116 = true
  o115 : plV d.v115 = true
  o114 : plV d.v114 = true
  o174 : plV d.v174 = true
  o173 : plV d.v173 = true
  o172 : plV d.v172 = true
theorem jT_ok : jT.Ok := ⟨rfl, rfl, rfl, rfl, rfl, rfl, rfl, rfl, rfl, rfl, rfl, rfl, rfl, rfl, rfl, rfl, rfl, rfl, rfl⟩

/-- One more from which a block is gone to. -/
def bestS (up : List Int) (pl : Nat → Nat) (M : Nat) (best p : Int) : Int :=
  if lk up p.toNat < 0 then best else if best < 0 then p else (meetN up pl M best.toNat p.toNat : Nat)
/-- The last one on all chains. -/
def BestOK (n : Nat) (up : List Int) (best : Int) : Prop := best < 0 ∨ (0 ≤ best ∧ best.toNat < n ∧ Done up best.toNat)

theorem of_best (h : Heap) (f : Fn) (v9 : V) (bw : Option AO) (hw9 : WasOK h.length f.blocks.length v9 bw) (up dp : List Int) (kids : List (List Int)) (hkn : kids.length = f.blocks.length) (hn : f.blocks.length ≤ 1000) {pl : Nat → Nat} (T : Tr f.blocks.length pl up)
    (at_ : List Int) (hal : at_.length = f.blocks.length) (hat : ∀ v, v < f.blocks.length → Done up v → at_[v]? = some (pl v : Int)) (M : Nat) (hM : ∀ a b, a < f.blocks.length → b < f.blocks.length → Done up a → Done up b → pl a + pl b < M)
    (ps : List Int) (hps : ps.length ≤ 100000) (hp : ∀ p, p ∈ ps → 0 ≤ p ∧ p < f.blocks.length) (d : DT) (hd : d.Ok) (h7 : d.v7 = Sl (intsOf at_)) (best : Int) (hb : BestOK f.blocks.length up best) :
    lpK 61 Tryz.f61 182 3 h (domS h f v9 bw up dp kids { d with v76 := I (0 : Nat), v75 := I (ps.length : Nat), v74 := Sl (intsOf ps), v12 := I best }) =
      some (.exit 6, domS h f v9 bw up dp kids { d with v76 := I (ps.length : Nat), v75 := I (ps.length : Nat), v74 := Sl (intsOf ps), v12 := I (ps.foldl (bestS up pl M) best) }) := by
  obtain ⟨v35, v34, v6, v67, v66, v65, v8, v11, v76, v75, v74, v12, v7, v116, v115, v114, v174, v173, v172⟩ := d
  obtain ⟨o35, o34, o6, o67, o66, o65, o8, o11, o76, o75, o74, o12, o7, o116, o115, o114, o174, o173, o172⟩ := hd
  simp only at o35 o34 o6 o67 o66 o65 o8 o11 o76 o75 o74 o12 o7 o116 o115 o114 o174 o173 o172 h7 ⊢
  subst h7
  have hul := T.len
  have key := loop_fun (P := Tryz.prog) (C := cfg) (sc := runScope Tryz.prog cfg 182 h.length (cfg.live 61) 0) (N := 182) (n0 := h.length) (K := cfg.live 61) (c := loopAt Tryz.f61 3)
    (fun s : Nat × Int => domS h f v9 bw up dp kids ⟨v35, v34, v6, v67, v66, v65, v8, v11, I (s.1 : Nat), I (ps.length : Nat), Sl (intsOf ps), I s.2, Sl (intsOf at_), v116, v115, v114, v174, v173, v172⟩) (fun s => s.1 ≤ ps.length ∧ BestOK f.blocks.length up s.2) (fun s => ps.length - s.1)
    (fun s => (.exit 6, domS h f v9 bw up dp kids ⟨v35, v34, v6, v67, v66, v65, v8, v11, I (ps.length : Nat), I (ps.length : Nat), Sl (intsOf ps), I ((ps.drop s.1).foldl (bestS up pl M) s.2), Sl (intsOf at_), v116, v115, v114, v174, v173, v172⟩)) ?_ (0, best) ⟨Nat.zero_le _, hb⟩
  · exact key
  clear hb best
  rintro ⟨j, best⟩ ⟨hj, hb⟩
  simp only at hj hb ⊢
  rcases Nat.lt_or_ge j ps.length with hlt | hge
  · have hltI : ((j : Nat) : Int) < ((ps.length : Nat) : Int) := by omega
    obtain ⟨p, hd⟩ : ∃ p, ps[j]? = some p := ⟨_, List.getElem?_eq_getElem hlt⟩
    have hdr : ps.drop j = p :: ps.drop (j + 1) := by
      rw [List.drop_eq_getElem_cons hlt]; rw [List.getElem?_eq_getElem hlt] at hd; cases hd; rfl
    have hp0 := hp p (List.mem_of_getElem? hd)
    obtain ⟨q, rfl⟩ : ∃ q : Nat, p = (q : Int) := ⟨p.toNat, by omega⟩
    have hqn : q < f.blocks.length := by omega
    obtain ⟨u, hu⟩ : ∃ u, up[q]? = some u := ⟨_, List.getElem?_eq_getElem (by omega)⟩
    have hlk : lk up q = u := by unfold lk; rw [List.getD, hu]; rfl
    by_cases hu0 : u < 0
    · refine .inl ⟨(j + 1, best), ?_, ⟨hlt, hb⟩, by first | omega | (simp only; omega), ?_⟩
      · simp (disch := (first | omega | simp (disch := omega) [])) [round_eq, domS, domT, domH, encFn, Tryz.f61, lvOf, hlt, hltI, hd, hu, hu0, hqn, hul, wrap_i64, -getElem?_pos, -tidy_eq]
        refine (tidy_dom' hkn ?_ hw9 ?_ ?_).trans ?_ <;> simp (disch := omega) [domK_p, domK_b, domK_s, domK_b2, domK_nil, domH, o35, o34, o6, o67, o66, o65, o8, o11, o116, o115, o114, o174, o173, o172]
      · rw [hdr, List.foldl_cons]
        have : bestS up pl M best (q : Int) = best := by unfold bestS; rw [Int.toNat_natCast, hlk, if_pos hu0]
        rw [this]
    · have hdq : Done up q := by unfold Done; rw [hlk]; omega
      by_cases hb0 : best < 0
      · refine .inl ⟨(j + 1, (q : Int)), ?_, ⟨hlt, .inr ⟨by omega, by rw [Int.toNat_natCast]; exact hqn, by rw [Int.toNat_natCast]; exact hdq⟩⟩, by first | omega | (simp only; omega), ?_⟩
        · simp (disch := (first | omega | simp (disch := omega) [])) [round_eq, domS, domT, domH, encFn, Tryz.f61, lvOf, hlt, hltI, hd, hu, hu0, hb0, hqn, hul, wrap_i64, -getElem?_pos, -tidy_eq]
          refine (tidy_dom' hkn ?_ hw9 ?_ ?_).trans ?_ <;> simp (disch := omega) [domK_p, domK_b, domK_s, domK_b2, domK_nil, domH, o35, o34, o6, o67, o66, o65, o8, o11, o116, o115, o114, o174, o173, o172]
        · rw [hdr, List.foldl_cons]
          have : bestS up pl M best (q : Int) = q := by unfold bestS; rw [Int.toNat_natCast, hlk, if_neg hu0, if_pos hb0]
          rw [this]
      · obtain ⟨hb1, hbn, hbd⟩ := hb.resolve_left hb0
        obtain ⟨b, rfl⟩ : ∃ b : Nat, best = (b : Int) := ⟨best.toNat, by omega⟩
        rw [Int.toNat_natCast] at hbn hbd
        have hm := hM b q hbn hqn hbd hdq
        obtain ⟨m1, m2, m3⟩ := meetN_ok T M b q hm hbn hqn hbd hdq
        have e := meet (h ++ domH h.length f.blocks.length (some (.row 5 [encFn f])) bw up dp kids) (h.length + 2) (h.length + 3) f.blocks.length up at_ (.sl (h.length + 4) 1 f.blocks.length 0 f.blocks.length) (.sl (h.length + 5) 1 f.blocks.length 0 f.blocks.length)
          (by simp [domH]) (by simp [domH, hul]) T hal hat M b q hm hbn hqn hbd hdq
        simp [domH, encFn] at e
        refine .inl ⟨(j + 1, (meetN up pl M b q : Nat)), ?_, ⟨hlt, .inr ⟨by omega, by rw [Int.toNat_natCast]; exact m1, by rw [Int.toNat_natCast]; exact m2⟩⟩, by first | omega | (simp only; omega), ?_⟩
        · simp (disch := (first | omega | simp (disch := omega) [])) [round_eq, domS, domT, domH, encFn, Tryz.f61, lvOf, hlt, hltI, hd, hu, hu0, hb0, hqn, hul, e, wrap_i64, -getElem?_pos, -tidy_eq]
          refine (tidy_dom' hkn ?_ hw9 ?_ ?_).trans ?_ <;> simp (disch := omega) [domK_p, domK_b, domK_s, domK_b2, domK_nil, domH, o35, o34, o6, o67, o66, o65, o8, o11, o116, o115, o114, o174, o173, o172]
        · rw [hdr, List.foldl_cons]
          have : bestS up pl M (b : Int) (q : Int) = (meetN up pl M b q : Nat) := by unfold bestS; rw [Int.toNat_natCast, hlk, if_neg hu0, if_neg hb0, Int.toNat_natCast]
          rw [this]
  · have : j = ps.length := by omega
    subst this
    refine .inr ⟨?_, nofun⟩
    simp (disch := (first | omega | simp (disch := omega) [])) [round_eq, domS, domT, domH, encFn, Tryz.f61, lvOf, -getElem?_pos, -tidy_eq]
    refine (tidy_dom' hkn ?_ hw9 ?_ ?_).trans ?_ <;> simp (disch := omega) [domK_p, domK_b, domK_s, domK_b2, domK_nil, domH, o35, o34, o6, o67, o66, o65, o8, o11, o116, o115, o114, o174, o173, o172]
end Go.Proofs.YtdkknhpdjcdmfaaGreat.Abs

/- A round of telling links: what it keeps, and that it ends. -/
set_option linter.unusedSimpArgs false
set_option linter.unusedVariables false
namespace Go.Proofs.YtdkknhpdjcdmfaaGreat.Abs

section
variable {n : Nat} {pl : Nat → Nat} {up : List Int} {M : Nat} (T : Tr n pl up) (hM : ∀ a b, a < n → b < n → Done up a → Done up b → pl a + pl b < M)
include T hM
theorem best_fold : ∀ (ps : List Int) (best : Int), (∀ p, p ∈ ps → 0 ≤ p ∧ p < n) → BestOK n up best →
    BestOK n up (ps.foldl (bestS up pl M) best) ∧ (ps.foldl (bestS up pl M) best < 0 ↔ best < 0 ∧ ∀ p, p ∈ ps → ¬ Done up p.toNat) ∧
    (0 ≤ ps.foldl (bestS up pl M) best → ∀ x, Anc up x (ps.foldl (bestS up pl M) best).toNat ↔ (0 ≤ best → Anc up x best.toNat) ∧ ∀ p, p ∈ ps → Done up p.toNat → Anc up x p.toNat)
  | [], best, _, hb => ⟨hb, by simp, fun h0 x => by
      show Anc up x best.toNat ↔ _
      exact ⟨fun h => ⟨fun _ => h, by simp⟩, fun h => h.1 h0⟩⟩
  | p :: ps, best, hp, hb => by
    have hp0 := hp p (by simp)
    have step : BestOK n up (bestS up pl M best p) ∧ (bestS up pl M best p < 0 ↔ best < 0 ∧ ¬ Done up p.toNat) ∧ (0 ≤ bestS up pl M best p → ∀ x, Anc up x (bestS up pl M best p).toNat ↔ (0 ≤ best → Anc up x best.toNat) ∧ (Done up p.toNat → Anc up x p.toNat)) := by
      unfold bestS
      by_cases h1 : lk up p.toNat < 0
      · have hnd : ¬ Done up p.toNat := fun h => by unfold Done at h; omega
        rw [if_pos h1]
        exact ⟨hb, ⟨fun h => ⟨h, hnd⟩, fun h => h.1⟩, fun h0 x => ⟨fun h => ⟨fun _ => h, fun h' => absurd h' hnd⟩, fun h => h.1 h0⟩⟩
      · have hd : Done up p.toNat := by unfold Done; omega
        have hpn : p.toNat < n := by omega
        rw [if_neg h1]
        by_cases h2 : best < 0
        · rw [if_pos h2]
          exact ⟨.inr ⟨hp0.1, hpn, hd⟩, ⟨fun h => by omega, fun h => absurd hd h.2⟩, fun _ x => ⟨fun h => ⟨fun h' => by omega, fun _ => h⟩, fun h => h.2 hd⟩⟩
        · rw [if_neg h2]
          obtain ⟨b0, bn, bd⟩ := hb.resolve_left h2
          obtain ⟨m1, m2, m3⟩ := meetN_ok T M best.toNat p.toNat (hM _ _ bn hpn bd hd) bn hpn bd hd
          refine ⟨.inr ⟨by omega, by rw [Int.toNat_natCast]; exact m1, by rw [Int.toNat_natCast]; exact m2⟩, ⟨fun h => by omega, fun h => absurd hd h.2⟩, fun _ x => ?_⟩
          rw [Int.toNat_natCast, m3]
          exact ⟨fun h => ⟨fun _ => h.1, fun _ => h.2⟩, fun h => ⟨h.1 b0, h.2 hd⟩⟩
    obtain ⟨s1, s2, s3⟩ := step
    obtain ⟨r1, r2, r3⟩ := best_fold ps (bestS up pl M best p) (fun q hq => hp q (by simp [hq])) s1
    rw [List.foldl_cons]
    refine ⟨r1, ?_, fun h0 x => ?_⟩
    · rw [r2, s2]
      constructor
      · rintro ⟨⟨h1, h2⟩, h3⟩
        refine ⟨h1, fun q hq => ?_⟩
        rcases List.mem_cons.1 hq with rfl | hq
        · exact h2
        · exact h3 q hq
      · rintro ⟨h1, h2⟩
        exact ⟨⟨h1, h2 p (by simp)⟩, fun q hq => h2 q (by simp [hq])⟩
    · rw [r3 h0]
      constructor
      · rintro ⟨h1, h2⟩
        by_cases hs : 0 ≤ bestS up pl M best p
        · have h3 := (s3 hs x).1 (h1 hs)
          refine ⟨h3.1, fun q hq => ?_⟩
          rcases List.mem_cons.1 hq with rfl | hq
          · exact h3.2
          · exact h2 q hq
        · have h3 := s2.1 (by omega)
          refine ⟨fun h => by omega, fun q hq => ?_⟩
          rcases List.mem_cons.1 hq with rfl | hq
          · exact fun h => absurd h h3.2
          · exact h2 q hq
      · rintro ⟨h1, h2⟩
        exact ⟨fun hs => (s3 hs x).2 ⟨h1, h2 p (by simp)⟩, fun q hq => h2 q (by simp [hq])⟩
end

/-- From where blocks are gone to, as lists. -/
def prOf (prs : List (List Int)) (p k : Nat) : Prop := (p : Int) ∈ prs.getD k []
def bestF (up : List Int) (pl : Nat → Nat) (M : Nat) (ps : List Int) : Int := ps.foldl (bestS up pl M) (-1)
def passG (pl : Nat → Nat) (M : Nat) (prs : List (List Int)) : List Int → List Int → List Int
  | [], up => up
  | k :: ks, up => passG pl M prs ks (up.set k.toNat (bestF up pl M (prs.getD k.toNat [])))

/-- What is known of the blocks: an order, places, from where each is gone to. -/
structure DomIn (n : Nat) (R : Nat → Prop) (pl : Nat → Nat) (ord : List Int) (prs : List (List Int)) : Prop where
  F : Flow n R pl (prOf prs)
  len : prs.length = n
  low : ∀ l, l ∈ prs → ∀ p, p ∈ l → 0 ≤ p ∧ p < n
  at_ : ∀ (i : Nat) k, ord[i]? = some k → 0 ≤ k ∧ R k.toNat ∧ pl k.toNat = i
  all : ∀ v, R v → pl v < ord.length
  max : ord.length ≤ n

theorem best_is {n : Nat} {R : Nat → Prop} {pl : Nat → Nat} {ord : List Int} {prs : List (List Int)} (D : DomIn n R pl ord prs) {up : List Int} {k M : Nat} (I : PInv n R pl (prOf prs) (pl k) up) (hM : 2 * n ≤ M) (hR : R k) (hk0 : k ≠ 0) :
    ∃ b : Nat, bestF up pl M (prs.getD k []) = (b : Int) ∧ IsBest n (prOf prs) up k b := by
  have hMM : ∀ a b, a < n → b < n → Done up a → Done up b → pl a + pl b < M := fun a b ha hb da db => by
    have h1 := D.all a (I.r a ha da)
    have h2 := D.all b (I.r b hb db)
    have := D.max
    omega
  have hlow : ∀ p, p ∈ prs.getD k [] → 0 ≤ p ∧ p < n := by
    intro p hp
    rw [List.getD] at hp
    cases he : prs[k]? with
    | none => rw [he] at hp; simp at hp
    | some l => rw [he] at hp; exact D.low l (List.mem_of_getElem? he) p hp
  obtain ⟨r1, r2, r3⟩ := best_fold I.T hMM (prs.getD k []) (-1) hlow (.inl (by omega))
  obtain ⟨p0, q1, q2, q3⟩ := D.F.ahead k hR hk0
  have dp0 := I.d p0 q2 q3
  have h0 : ¬ (prs.getD k []).foldl (bestS up pl M) (-1) < 0 := fun h => (r2.1 h).2 (p0 : Int) q1 (by rw [Int.toNat_natCast]; exact dp0)
  obtain ⟨b0, bn, bd⟩ := r1.resolve_left h0
  refine ⟨((prs.getD k []).foldl (bestS up pl M) (-1)).toNat, by unfold bestF; omega, bn, bd, fun x => ?_⟩
  rw [r3 b0 x]
  constructor
  · rintro ⟨_, h⟩ p hp dp
    have := h (p : Int) hp (by rw [Int.toNat_natCast]; exact dp)
    rwa [Int.toNat_natCast] at this
  · intro h
    refine ⟨fun h' => by omega, fun p hp dp => h p.toNat ?_ dp⟩
    have := (hlow p hp).1
    show ((p.toNat : Nat) : Int) ∈ _
    rw [Int.toNat_of_nonneg this]
    exact hp

/-! How much may be told yet. -/
def muL (f : Nat → Nat) : Nat → Nat
  | 0 => 0
  | n + 1 => muL f n + f n
theorem muL_le {f g : Nat → Nat} : ∀ (n : Nat), (∀ v, v < n → f v ≤ g v) → muL f n ≤ muL g n
  | 0, _ => Nat.le_refl _
  | n + 1, h => by
    have h1 := muL_le n fun v hv => h v (by omega)
    have h2 := h n (by omega)
    show muL f n + f n ≤ muL g n + g n
    omega
theorem muL_eq {f g : Nat → Nat} : ∀ (n : Nat), (∀ v, v < n → f v ≤ g v) → muL f n = muL g n → ∀ v, v < n → f v = g v
  | 0, _, _, v, hv => by omega
  | n + 1, h, e, v, hv => by
    have h1 := muL_le n fun v hv => h v (by omega)
    have h2 := h n (by omega)
    have e' : muL f n + f n = muL g n + g n := e
    by_cases hvn : v = n
    · subst hvn; omega
    · exact muL_eq n (fun v hv => h v (by omega)) (by omega) v (by omega)
def mu (n : Nat) (pl : Nat → Nat) (up : List Int) : Nat := muL (fun v => if 0 ≤ lk up v then pl (nx up v) else n) n

theorem pass_law {n : Nat} {R : Nat → Prop} {pl : Nat → Nat} {ord : List Int} {prs : List (List Int)} (D : DomIn n R pl ord prs) {M : Nat} (hM : 2 * n ≤ M) : ∀ (ks : List Int) (i : Nat) (up : List Int), ord.drop i = ks → 0 < i → i ≤ ord.length → PInv n R pl (prOf prs) i up →
    PInv n R pl (prOf prs) ord.length (passG pl M prs ks up) ∧ mu n pl (passG pl M prs ks up) ≤ mu n pl up ∧ (mu n pl (passG pl M prs ks up) = mu n pl up → passG pl M prs ks up = up ∧ ∀ k, k ∈ ks → Done up k.toNat ∧ IsBest n (prOf prs) up k.toNat (nx up k.toNat))
  | [], i, up, hd, h0, hi, I => by
    have : ord.length ≤ i := List.drop_eq_nil_iff.1 hd
    have : i = ord.length := by omega
    subst this
    exact ⟨I, Nat.le_refl _, fun _ => ⟨rfl, by simp⟩⟩
  | k :: ks, i, up, hd, h0, hi, I => by
    have hlt : i < ord.length := by
      have := congrArg List.length hd
      simp at this
      omega
    have hk : ord[i]? = some k := by
      rw [List.drop_eq_getElem_cons hlt] at hd
      rw [List.getElem?_eq_getElem hlt]
      injection hd with h1 _
      rw [h1]
    have hd' : ord.drop (i + 1) = ks := by
      rw [List.drop_eq_getElem_cons hlt] at hd
      injection hd
    obtain ⟨k0, kR, kp⟩ := D.at_ i k hk
    have hkz : k.toNat ≠ 0 := fun e => by rw [e, D.F.pl0] at kp; omega
    have hkn := D.F.low _ kR
    have I' : PInv n R pl (prOf prs) (pl k.toNat) up := by rw [kp]; exact I
    obtain ⟨b, hb, hB⟩ := best_is D I' hM kR hkz
    obtain ⟨s1, s2, s3⟩ := PInv.step D.F I' kR hkz hB
    rw [kp] at s2
    obtain ⟨p1, p2, p3⟩ := pass_law D hM ks (i + 1) (up.set k.toNat (b : Int)) hd' (by omega) (by omega) s2
    have hpg : passG pl M prs (k :: ks) up = passG pl M prs ks (up.set k.toNat (b : Int)) := by rw [passG, hb]
    rw [hpg]
    have hT := I.T
    have hle : ∀ v, v < n → (fun v => if 0 ≤ lk (up.set k.toNat (b : Int)) v then pl (nx (up.set k.toNat (b : Int)) v) else n) v ≤ (fun v => if 0 ≤ lk up v then pl (nx up v) else n) v := by
      intro v hv
      simp only
      rw [lk_set hT hkn, nx_set hT hkn]
      by_cases e : v = k.toNat
      · subst e
        rw [if_pos rfl, if_pos rfl, if_pos (by omega)]
        split
        · rename_i hd
          obtain ⟨g1, g2, g3⟩ := hT.link _ hkn hd hkz
          exact (hT.anc (s3 hd) g1 g2).2.2
        · have := D.all _ kR
          have := D.max
          omega
      · rw [if_neg e, if_neg e]
        exact Nat.le_refl _
    have hmu : mu n pl (up.set k.toNat (b : Int)) ≤ mu n pl up := muL_le n hle
    refine ⟨p1, Nat.le_trans p2 hmu, fun e => ?_⟩
    have e1 : mu n pl (up.set k.toNat (b : Int)) = mu n pl up := by omega
    have e2 := muL_eq n hle e1 k.toNat hkn
    rw [lk_set hT hkn, nx_set hT hkn, if_pos rfl, if_pos rfl, if_pos (by omega)] at e2
    have hdk : Done up k.toNat := by
      by_cases h : 0 ≤ lk up k.toNat
      · exact h
      · rw [if_neg h] at e2
        have := D.all _ kR
        have := D.max
        omega
    rw [if_pos (show 0 ≤ lk up k.toNat from hdk)] at e2
    obtain ⟨g1, g2, g3⟩ := hT.link _ hkn hdk hkz
    have hbk : b = nx up k.toNat := hT.anc_eq (s3 hdk) g1 g2 (by omega)
    have hset : up.set k.toNat (b : Int) = up := by
      apply List.ext_getElem?
      intro j
      rw [List.getElem?_set]
      split
      · rename_i e; subst e
        have hl := hT.len
        rw [if_pos (by omega)]
        have h1 : up[k.toNat]? = some (lk up k.toNat) := by unfold lk; rw [List.getD, List.getElem?_eq_getElem (by omega)]; rfl
        rw [h1, hbk]
        unfold nx
        rw [Int.toNat_of_nonneg hdk]
      · rfl
    rw [hset] at p3 e ⊢
    obtain ⟨p4, p5⟩ := p3 e
    refine ⟨p4, fun q hq => ?_⟩
    rcases List.mem_cons.1 hq with rfl | hq
    · exact ⟨hdk, hbk ▸ hB⟩
    · exact p5 q hq

section
variable {n : Nat} {R : Nat → Prop} {pl : Nat → Nat} {ord : List Int} {prs : List (List Int)} (D : DomIn n R pl ord prs)
include D
/-- Before the first round. -/
theorem pinv_first : PInv n R pl (prOf prs) 1 ((List.replicate n (-1 : Int)).set 0 0) := by
  have hp := D.F.pos
  have hlk : ∀ v, lk ((List.replicate n (-1 : Int)).set 0 0) v = if v = 0 then 0 else -1 := by
    intro v
    unfold lk
    rw [List.getD, List.getElem?_set]
    by_cases e : v = 0
    · subst e
      rw [if_pos rfl, if_pos rfl, if_pos (by simpa using hp)]
      rfl
    · rw [if_neg (fun h => e h.symm), if_neg e, List.getElem?_replicate]
      split <;> rfl
  have hd : ∀ v, Done ((List.replicate n (-1 : Int)).set 0 0) v → v = 0 := by
    intro v h
    unfold Done at h
    rw [hlk] at h
    by_cases e : v = 0
    · exact e
    · rw [if_neg e] at h; omega
  have hd0 : Done ((List.replicate n (-1 : Int)).set 0 0) 0 := by unfold Done; rw [hlk, if_pos rfl]; omega
  refine ⟨⟨by simp, hp, hd0, D.F.pl0, fun v _ h h0 => absurd (hd v h) h0, fun v w _ _ dv dw _ => by rw [hd v dv, hd w dw]⟩, ?_, ?_, ?_, ?_, ?_, ?_⟩
  · intro j _ h h0; exact absurd (hd j h) h0
  · intro j _ h h0; exact absurd (hd j h) h0
  · intro j _ h h0; exact absurd (hd j h) h0
  · intro j hR hj
    have : j = 0 := D.F.inj j 0 hR D.F.zero (by rw [D.F.pl0]; omega)
    subst this; exact hd0
  · intro j _ h; rw [hd j h]; exact D.F.zero
  · right
    intro v _ h
    rw [hd v h, D.F.pl0]; omega
/-- From one round to the next one. -/
theorem pinv_next {up : List Int} (I : PInv n R pl (prOf prs) ord.length up) : PInv n R pl (prOf prs) 1 up := by
  have hall : ∀ v, R v → Done up v := fun v hv => I.d v hv (D.all v hv)
  refine ⟨I.T, ?_, ?_, I.m, fun j hR _ => hall j hR, I.r, .inl hall⟩
  · intro j hj dj h0 hl
    have : j = 0 := D.F.inj j 0 (I.r j hj dj) D.F.zero (by rw [D.F.pl0]; omega)
    exact absurd this h0
  · intro j hj dj h0 _ p hp hpl dp x hx _
    exact I.a j hj dj h0 (D.all j (I.r j hj dj)) p hp hpl dp x hx

/-- What is told at the end. -/
structure Doms (n : Nat) (R : Nat → Prop) (pl : Nat → Nat) (prs : List (List Int)) (up : List Int) : Prop where
  T : Tr n pl up
  done : ∀ v, v < n → (Done up v ↔ R v)
  low : ∀ v, R v → v < n
  law : ∀ k p x, R k → k ≠ 0 → prOf prs p k → R p → Anc up x (nx up k) → Anc up x p
theorem doms_of {up : List Int} (I : PInv n R pl (prOf prs) ord.length up) (hB : ∀ k, k ∈ ord.drop 1 → Done up k.toNat ∧ IsBest n (prOf prs) up k.toNat (nx up k.toNat)) : Doms n R pl prs up := by
  have hall : ∀ v, R v → Done up v := fun v hv => I.d v hv (D.all v hv)
  refine ⟨I.T, fun v hv => ⟨I.r v hv, hall v⟩, D.F.low, fun k p x hk hk0 hp hRp hx => ?_⟩
  have h1 := D.all k hk
  obtain ⟨y, hy⟩ : ∃ y, ord[pl k]? = some y := ⟨_, List.getElem?_eq_getElem h1⟩
  obtain ⟨y0, yR, yp⟩ := D.at_ _ _ hy
  have hyk : y.toNat = k := D.F.inj _ _ yR hk yp
  have hpk : pl k ≠ 0 := fun e => hk0 (D.F.inj _ _ hk D.F.zero (by rw [e, D.F.pl0]))
  have hm : y ∈ ord.drop 1 := by
    refine List.mem_of_getElem? (i := pl k - 1) ?_
    rw [List.getElem?_drop, show 1 + (pl k - 1) = pl k by omega]
    exact hy
  obtain ⟨_, hb⟩ := hB y hm
  rw [hyk] at hb
  exact (hb.2.2 x).1 hx p hp (hall p hRp)
end
end Go.Proofs.YtdkknhpdjcdmfaaGreat.Abs

/- dom.Of: a round of telling links. -/
set_option linter.unusedSimpArgs false
set_option linter.unusedVariables false
namespace Go.Proofs.YtdkknhpdjcdmfaaGreat.Abs
open Go Go.RowKit Go.Proofs

/-- What stays in its place. -/
structure DT.Fix (d : DT) (v6 v7 v8 : V) : Prop where
  ok : d.Ok
  e6 : d.v6 = v6
  e7 : d.v7 = v7
  e8 : d.v8 = v8

theorem of_pass (h : Heap) (f : Fn) (v9 : V) (bw : Option AO) (hw9 : WasOK h.length f.blocks.length v9 bw) (dp : List Int) (kids : List (List Int)) (hkn : kids.length = f.blocks.length) (hn : f.blocks.length ≤ 1000) {R : Nat → Prop} {pl : Nat → Nat} {ord : List Int} {prs : List (List Int)}
    (D : DomIn f.blocks.length R pl ord prs) (hpl : ∀ l, l ∈ prs → l.length ≤ 100000) (at_ : List Int) (hal : at_.length = f.blocks.length) (hat : ∀ v, R v → at_[v]? = some (pl v : Int)) (v6 : V)
    (up : List Int) (I0 : PInv f.blocks.length R pl (prOf prs) 1 up) (d : DT) (hd : d.Fix v6 (Sl (intsOf at_)) (Sl (listsOf prs))) :
    ∃ d', lpK 61 Tryz.f61 182 2 h (domS h f v9 bw up dp kids { d with v67 := I (0 : Nat), v66 := I ((ord.drop 1).length : Nat), v65 := Sl (intsOf (ord.drop 1)) }) =
      some (.exit 4, domS h f v9 bw (passG pl (2 * f.blocks.length) prs (ord.drop 1) up) dp kids d') ∧ d'.Fix v6 (Sl (intsOf at_)) (Sl (listsOf prs)) := by
  have key := loop_rel (P := Tryz.prog) (C := cfg) (sc := runScope Tryz.prog cfg 182 h.length (cfg.live 61) 0) (N := 182) (n0 := h.length) (K := cfg.live 61) (c := loopAt Tryz.f61 2)
    (fun s : Nat × List Int × DT => domS h f v9 bw s.2.1 dp kids { s.2.2 with v67 := I (s.1 : Nat), v66 := I ((ord.drop 1).length : Nat), v65 := Sl (intsOf (ord.drop 1)) })
    (fun s => s.1 ≤ (ord.drop 1).length ∧ PInv f.blocks.length R pl (prOf prs) (s.1 + 1) s.2.1 ∧ s.2.2.Fix v6 (Sl (intsOf at_)) (Sl (listsOf prs))) (fun s => (ord.drop 1).length - s.1)
    (fun s r => ∃ d', r = (.exit 4, domS h f v9 bw (passG pl (2 * f.blocks.length) prs ((ord.drop 1).drop s.1) s.2.1) dp kids d') ∧ d'.Fix v6 (Sl (intsOf at_)) (Sl (listsOf prs))) ?_ (0, up, d) ⟨Nat.zero_le _, I0, hd⟩
  · obtain ⟨r, h1, d', rfl, h2⟩ := key
    exact ⟨d', h1, h2⟩
  clear hd d I0 up
  rintro ⟨i, up, d⟩ ⟨hi, J, hd⟩
  simp only at hi J hd ⊢
  obtain ⟨v35, v34, v6', v67, v66, v65, v8, v11, v76, v75, v74, v12, v7, v116, v115, v114, v174, v173, v172⟩ := d
  obtain ⟨⟨o35, o34, o6, o67, o66, o65, o8, o11, o76, o75, o74, o12, o7, o116, o115, o114, o174, o173, o172⟩, e6, e7, e8⟩ := hd
  simp only at o35 o34 o6 o67 o66 o65 o8 o11 o76 o75 o74 o12 o7 o116 o115 o114 o174 o173 o172 e6 e7 e8 ⊢
  subst e6 e7 e8
  generalize htl : ord.drop 1 = tail at hi ⊢
  have hmax : tail.length ≤ 1000 := by rw [← htl]; have := D.max; simp; omega
  rcases Nat.lt_or_ge i tail.length with hlt | hge
  · have hltI : ((i : Nat) : Int) < ((tail.length : Nat) : Int) := by omega
    obtain ⟨k, hk⟩ : ∃ k, tail[i]? = some k := ⟨_, List.getElem?_eq_getElem hlt⟩
    have hdr : tail.drop i = k :: tail.drop (i + 1) := by
      rw [List.drop_eq_getElem_cons hlt]; rw [List.getElem?_eq_getElem hlt] at hk; cases hk; rfl
    have hko : ord[i + 1]? = some k := by rw [← htl, List.getElem?_drop, Nat.add_comm] at hk; exact hk
    obtain ⟨k0, kR, kp⟩ := D.at_ _ _ hko
    obtain ⟨q, rfl⟩ : ∃ q : Nat, k = (q : Int) := ⟨k.toNat, by omega⟩
    rw [Int.toNat_natCast] at kR kp
    have hqz : q ≠ 0 := fun e => by rw [e, D.F.pl0] at kp; omega
    have hqn := D.F.low _ kR
    have hI : PInv f.blocks.length R pl (prOf prs) (pl q) up := by rw [kp]; exact J
    obtain ⟨b, hb, hB⟩ := best_is D hI (Nat.le_refl _) kR hqz
    obtain ⟨s1, s2, s3⟩ := PInv.step D.F hI kR hqz hB
    rw [kp] at s2
    have hpn : q < prs.length := by rw [D.len]; exact hqn
    obtain ⟨ps, hps⟩ : ∃ ps, prs[q]? = some ps := ⟨_, List.getElem?_eq_getElem hpn⟩
    have hgd : prs.getD q [] = ps := by rw [List.getD, hps]; rfl
    have hpm := List.mem_of_getElem? hps
    have hul := J.T.len
    obtain ⟨u, hu⟩ : ∃ u, up[q]? = some u := ⟨_, List.getElem?_eq_getElem (by omega)⟩
    have e := of_best h f v9 bw hw9 up dp kids hkn hn J.T at_ hal (fun v hv dv => hat v (J.r v hv dv)) (2 * f.blocks.length) (fun a b ha hb da db => by
        have h1 := D.all a (J.r a ha da)
        have h2 := D.all b (J.r b hb db)
        have := D.max
        omega) ps (hpl ps hpm) (D.low ps hpm) ⟨v35, v34, v6', I (i : Nat), I (tail.length : Nat), Sl (intsOf tail), Sl (listsOf prs), I (q : Nat), v76, v75, v74, I (-1), Sl (intsOf at_), v116, v115, v114, v174, v173, v172⟩
        ⟨o35, o34, o6, rfl, rfl, rfl, rfl, rfl, o76, o75, o74, rfl, rfl, o116, o115, o114, o174, o173, o172⟩ rfl (-1) (.inl (by omega))
    have hb2 : ps.foldl (bestS up pl (2 * f.blocks.length)) (-1) = (b : Int) := by rw [← hgd]; exact hb
    rw [hb2] at e
    refine .inl ⟨(i + 1, up.set q (b : Int), ⟨v35, v34, v6', I (i : Nat), I (tail.length : Nat), Sl (intsOf tail), Sl (listsOf prs), I (q : Nat), I (ps.length : Nat), I (ps.length : Nat), Sl (intsOf ps), I (b : Nat), Sl (intsOf at_), v116, v115, v114, v174, v173, v172⟩), ?_,
      ⟨hlt, s2, ⟨⟨o35, o34, o6, rfl, rfl, rfl, rfl, rfl, rfl, rfl, rfl, rfl, rfl, o116, o115, o114, o174, o173, o172⟩, rfl, rfl, rfl⟩⟩, by first | omega | (simp only; omega), ?_⟩
    · simp [domS, domT, lpK, lvOf, Tryz.f61] at e
      simp (disch := (first | omega | simp (disch := omega) [])) [round_eq, domS, domT, Tryz.f61, lvOf, hlt, hltI, hk, hpn, hps, wrap_i64, -getElem?_pos, -tidy_eq]
      rw [tidy_dom' hkn (encFn_pl f) hw9 ?_ ?_]
      rotate_left
      · simp (disch := omega) [domK_p, domK_b, domK_s, domK_b2, domK_nil, o35, o34, o6, o67, o66, o65, o8, o11, o76, o75, o74, o116, o115, o114, o174, o173, o172]
      · simp
      simp (disch := (first | omega | simp (disch := omega) [])) [e, wrap_i64, -getElem?_pos, -tidy_eq]
      simp (disch := (first | omega | simp (disch := omega) [])) [domH, encFn, hqn, hul, hu, intsOf_set, wrap_i64, -getElem?_pos, -tidy_eq]
      refine (tidy_dom' hkn ?_ hw9 ?_ ?_).trans ?_ <;> simp (disch := omega) [domK_p, domK_b, domK_s, domK_b2, domK_nil, domH, o35, o34, o6, o67, o66, o65, o8, o11, o116, o115, o114, o174, o173, o172]
    · rintro r ⟨d', hr, hd'⟩
      refine ⟨d', ?_, hd'⟩
      rw [hr, hdr, passG, Int.toNat_natCast, hb]
  · have : i = tail.length := by omega
    subst this
    refine .inr ⟨_, ?_, ?_, ⟨v35, v34, v6', I (tail.length : Nat), I (tail.length : Nat), Sl (intsOf tail), Sl (listsOf prs), v11, v76, v75, v74, v12, Sl (intsOf at_), v116, v115, v114, v174, v173, v172⟩, rfl, ⟨⟨o35, o34, o6, rfl, rfl, rfl, rfl, o11, o76, o75, o74, o12, rfl, o116, o115, o114, o174, o173, o172⟩, rfl, rfl, rfl⟩⟩
    · simp (disch := (first | omega | simp (disch := omega) [])) [round_eq, domS, domT, Tryz.f61, lvOf, passG, -getElem?_pos, -tidy_eq]
      refine (tidy_dom' hkn ?_ hw9 ?_ ?_).trans ?_ <;> simp (disch := omega) [domK_p, domK_b, domK_s, domK_b2, domK_nil, encFn_pl, o35, o34, o6, o67, o66, o65, o8, o11, o76, o75, o74, o12, o116, o115, o114, o174, o173, o172]
    · nofun
end Go.Proofs.YtdkknhpdjcdmfaaGreat.Abs
