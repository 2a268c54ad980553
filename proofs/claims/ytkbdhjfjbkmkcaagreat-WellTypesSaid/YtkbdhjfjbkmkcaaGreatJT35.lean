/- The abstract machine, step by step: maps whose keys are numbers, by equations. -/
import Derived.Test.YtkbdhjfjbkmkcaaGreatJT34
set_option linter.unusedSimpArgs false
set_option linter.unusedVariables false
namespace Go.Proofs.YtkbdhjfjbkmkcaaGreat.Abs
open Go Go.RowKit

abbrev Ents := List (Int × V × Nat)
def mpI (ms : Ents) : List (Leaf × V × Nat) := ms.map fun e => (.int .i64 e.1, e.2)
def mgetI (k : Int) : Ents → Option V
  | [] => none
  | e :: es => if k = e.1 then some e.2.1 else mgetI k es
def mputI (k : Int) (v : V) (ck : Nat) : Ents → Ents
  | [] => [(k, v, ck)]
  | e :: es => if k = e.1 then (k, v, e.2.2) :: es else e :: mputI k v ck es
def mclkI (k : Int) (ck : Nat) : Ents → Nat
  | [] => ck + 1
  | e :: es => if k = e.1 then ck else mclkI k ck es
def mdelI (k : Int) : Ents → Ents
  | [] => []
  | e :: es => if k = e.1 then es else e :: mdelI k es
theorem mpI_length (ms : Ents) : (mpI ms).length = ms.length := by simp [mpI]
theorem findE_I (k : Int) : ∀ (ms : Ents), findE (.int .i64) (.int .i64 k) (mpI ms) = some (mgetI k ms)
  | [] => rfl
  | e :: es => by
    have ih := findE_I k es
    unfold mpI at ih
    simp only [mpI, List.map_cons, findE, keyEq, if_true]
    by_cases h : k = e.1
    · simp only [h, beq_self_eq_true, mgetI, if_true]
    · rw [beq_eq_false_iff_ne.2 h]
      simp only [mgetI, h, if_false]; exact ih
theorem updE_I (k : Int) (v : V) (ck : Nat) : ∀ (ms : Ents), updE (.int .i64) (.int .i64 k) v ck (mpI ms) = some (mpI (mputI k v ck ms), mclkI k ck ms)
  | [] => rfl
  | e :: es => by
    have ih := updE_I k v ck es
    unfold mpI at ih
    simp only [mpI, List.map_cons, updE, keyEq, if_true]
    by_cases h : k = e.1
    · simp only [h, beq_self_eq_true, mputI, mclkI, if_true, List.map_cons]
    · rw [beq_eq_false_iff_ne.2 h]
      simp only [mputI, mclkI, h, if_false, List.map_cons, ih, Option.map_some, consE]
theorem delE_I (k : Int) : ∀ (ms : Ents), delE (.int .i64) (.int .i64 k) (mpI ms) = some (mpI (mdelI k ms))
  | [] => rfl
  | e :: es => by
    have ih := delE_I k es
    unfold mpI at ih
    simp only [mpI, List.map_cons, delE, keyEq, if_true]
    by_cases h : k = e.1
    · simp only [h, beq_self_eq_true, mdelI, if_true]
    · rw [beq_eq_false_iff_ne.2 h]
      simp only [mdelI, h, if_false, List.map_cons, ih, Option.map_some]
theorem mget_put (k k' : Int) (v : V) (ck : Nat) : ∀ (ms : Ents), mgetI k' (mputI k v ck ms) = if k' = k then some v else mgetI k' ms
  | [] => by simp [mputI, mgetI]
  | e :: es => by
    have ih := mget_put k k' v ck es
    by_cases h : k = e.1
    · subst h
      simp only [mputI, if_true, mgetI]
      split <;> simp_all
    · simp only [mputI, h, if_false, mgetI, ih]
      by_cases h2 : k' = e.1
      · subst h2
        simp [Ne.symm h]
      · simp [h2]
/-! What is told of values that lead nowhere. -/
def plainV : V → Bool
  | .one l => plainL l
  | .agg cs => plainC cs
  | _ => false
def plainM (ms : Ents) : Bool := ms.all fun e => plainV e.2.1
theorem plainM_nil : plainM [] = true := rfl
theorem plainM_put {k : Int} {v : V} {ck : Nat} (hv : plainV v = true) : ∀ {ms : Ents}, plainM ms = true → plainM (mputI k v ck ms) = true
  | [], _ => by simp [mputI, plainM, hv]
  | e :: es, h => by
    simp only [plainM, List.all_cons, Bool.and_eq_true] at h
    have ih := plainM_put (k := k) (ck := ck) hv (ms := es) h.2
    simp only [plainM] at ih
    unfold mputI
    split
    · simp only [plainM, List.all_cons, hv, h.2, Bool.and_self]
    · simp only [plainM, List.all_cons, h.1, ih, Bool.and_self]
section
variable {h t : Heap} {n0 : Nat} {L : List (Option Nat)}
theorem fzV0_plain {v : V} (hv : plainV v = true) : fzV0 h n0 L v = some v := by
  cases v with
  | junk => cases hv
  | tup vs => cases hv
  | one l => simp only [fzV0, fzT_plain (show plainL l = true from hv), Option.map_some]
  | agg cs => simp only [fzV0, mapO_plain (show plainC cs = true from hv), Option.map_some]
theorem fzM_plain {ms : Ents} (hm : plainM ms = true) : mapO (fzE h n0 L) (mpI ms) = some (mpI ms) := by
  refine mapO_id fun x hx => ?_
  obtain ⟨e, he, rfl⟩ := List.mem_map.1 hx
  have := List.all_eq_true.1 hm e he
  simp only [fzE, fzT_int, fzV0_plain this]
def fzMp (h : Heap) (n0 : Nat) (L : List (Option Nat)) (ms : Ents) : Bool → Option (List (Leaf × V × Nat))
  | true => some (mpI ms)
  | false => mapO (fzE h n0 L) (mpI ms)
theorem fzMp_eq (ms : Ents) : mapO (fzE h n0 L) (mpI ms) = fzMp h n0 L ms (plainM ms) := by
  cases hm : plainM ms with
  | true => exact fzM_plain hm
  | false => rfl
theorem fzMp_true (ms : Ents) : fzMp h n0 L ms true = some (mpI ms) := rfl
theorem objK_mp (ck : Nat) (ms : Ents) : objK h n0 L (some (some (.mp ck (mpI ms)))) = (fzMp h n0 L ms (plainM ms)).map fun es => some (.mp ck es) := by
  rw [← fzMp_eq]
  simp only [objK, fzO]
  cases mapO (fzE h n0 L) (mpI ms) <;> rfl
theorem objK_mp0 (ck : Nat) : objK h n0 L (some (some (.mp ck []))) = some (some (.mp ck [])) := rfl

/-! Where a map lies. -/
def mapAt (h : Heap) (id : Nat) : Option (Nat × List (Leaf × V × Nat)) := match h[id]? with
  | some (some (.mp ck es)) => some (ck, es)
  | _ => none
theorem mapAt_at0 : mapAt (h ++ t) h.length = mapAt t 0 := by simp [mapAt, List.getElem?_append_right]
theorem mapAt_at (j : Nat) : mapAt (h ++ t) (h.length + j) = mapAt t j := by
  simp [mapAt, List.getElem?_append_right]
theorem mapAt_zero (ck : Nat) (es : List (Leaf × V × Nat)) : mapAt (some (.mp ck es) :: t) 0 = some (ck, es) := rfl
theorem mapAt_succ (o : Option AO) (n : Nat) : mapAt (o :: t) (n + 1) = mapAt t n := rfl
variable {P : Program} {cf : CF} {dst : Option Nat} {ty : TypeId} {pos : String} {after : Array Edge} {guard : Option (Nat × Bool)} {T : Tmps}
theorem op_makeMap (a : TypeId) : absOp P cf none T h ⟨dst, .makeMap a none, ty, pos, after, guard⟩ = some (.one (.map h.length), h ++ [some (.mp 0 (mpI []))], []) := rfl
def lookR (P : Program) (e : TypeId) (ok : Bool) : Option V → Option V
  | some v => some (foundV ok v true)
  | none => (tzeroV P e).map fun v => foundV ok v false
def lookM (P : Program) (q : Option (TypeDesc × TypeId)) (m : Option (Nat × List (Leaf × V × Nat))) (ok : Bool) : V → Option V
  | .one k => q.bind fun q => m.bind fun m => if isKeyL q.1 k then (findE q.1 k m.2).bind (lookR P q.2 ok) else none
  | _ => none
theorem op_lookup (a : TypeId) (m k : Operand) (ok : Bool) : absOp P cf none T h ⟨dst, .lookup a m k ok, ty, pos, after, guard⟩ = pureR h (lookupV P h a (ev T m) (ev T k) ok) := rfl
theorem lookup_map (a : TypeId) (id : Nat) (k : V) (ok : Bool) : lookupV P h a (.one (.map id)) k ok = lookM P (mapT P a) (mapAt h id) ok k := by
  have hm : mapOf h (.one (.map id)) = (mapAt h id).map (·.2) := by
    unfold mapOf mapAt
    simp only
    cases h[id]? with
    | none => rfl
    | some o =>
      cases o with
      | none => rfl
      | some o => cases o <;> rfl
  unfold lookupV lookM
  rw [hm]
  cases mapT P a with
  | none => cases k <;> rfl
  | some q =>
    simp only [Option.bind_some]
    cases mapAt h id with
    | none => cases k <;> rfl
    | some m =>
      simp only [Option.map_some, Option.bind_some]
      cases k with
      | one l =>
        simp only
        split
        · congr 1; first | done | (funext r; cases r <;> rfl)
        · rfl
      | _ => rfl
theorem lookM_I (e : TypeId) (ck : Nat) (ms : Ents) (ok : Bool) (k : Int) : lookM P (some (.int .i64, e)) (some (ck, mpI ms)) ok (.one (.int .i64 k)) = lookR P e ok (mgetI k ms) := by
  simp only [lookM, Option.bind_some, isKeyL, decide_true, if_true, findE_I]
theorem lookR_some (e : TypeId) (ok : Bool) (v : V) : lookR P e ok (some v) = some (foundV ok v true) := rfl
theorem lookR_none (e : TypeId) (ok : Bool) : lookR P e ok none = (tzeroV P e).map fun v => foundV ok v false := rfl
theorem foundV_t (v : V) (b : Bool) : foundV true v b = .tup [v, .one (.bool b)] := rfl
theorem foundV_f (v : V) (b : Bool) : foundV false v b = v := rfl
def updM (h : Heap) (id : Nat) (x : V) (q : Option (TypeDesc × TypeId)) (m : Option (Nat × List (Leaf × V × Nat))) : V → Res
  | .one k => q.bind fun q => m.bind fun m => if isKeyL q.1 k then (updE q.1 k x m.1 m.2).map fun r => (.junk, h.set id (some (.mp r.2 r.1)), [id]) else none
  | _ => none
theorem op_mapUpdate (a : TypeId) (m k x : Operand) : absOp P cf none T h ⟨dst, .mapUpdate a m k x, ty, pos, after, guard⟩ = mapUpdV P h a (ev T m) (ev T k) (ev T x) := rfl
theorem upd_map (a : TypeId) (id : Nat) (k x : V) : mapUpdV P h a (.one (.map id)) k x = updM h id x (mapT P a) (mapAt h id) k := by
  unfold mapUpdV updM mapAt
  cases mapT P a with
  | none => cases k <;> rfl
  | some q =>
    simp only [Option.bind_some]
    cases k with
    | one l =>
      simp only
      cases h[id]? with
      | none => simp
      | some o =>
        cases o with
        | none => simp
        | some o => cases o <;> simp
    | _ => cases h[id]? <;> rfl
theorem updM_I (id : Nat) (x : V) (e : TypeId) (ck : Nat) (ms : Ents) (k : Int) : updM h id x (some (.int .i64, e)) (some (ck, mpI ms)) (.one (.int .i64 k)) = some (.junk, h.set id (some (.mp (mclkI k ck ms) (mpI (mputI k x ck ms)))), [id]) := by
  simp only [updM, Option.bind_some, isKeyL, decide_true, if_true, updE_I, Option.map_some]
def delM (h : Heap) (id : Nat) (q : Option (TypeDesc × TypeId)) (m : Option (Nat × List (Leaf × V × Nat))) : V → Res
  | .one k => q.bind fun q => m.bind fun m => if isKeyL q.1 k then (delE q.1 k m.2).map fun es => (.tup [], h.set id (some (.mp m.1 es)), [id]) else none
  | _ => none
theorem op_delete (m k : Operand) (a b : TypeId) : absOp P cf none T h ⟨dst, .call { callee := .builtin .delete, args := #[m, k], argTypes := #[a, b] }, ty, pos, after, guard⟩ = delV P h a (ev T m) (ev T k) := rfl
theorem del_map (a : TypeId) (id : Nat) (k : V) : delV P h a (.one (.map id)) k = delM h id (mapT P a) (mapAt h id) k := by
  unfold delV delM mapAt
  cases mapT P a with
  | none => cases k <;> rfl
  | some q =>
    simp only [Option.bind_some]
    cases k with
    | one l =>
      simp only
      cases h[id]? with
      | none => simp
      | some o =>
        cases o with
        | none => simp
        | some o => cases o <;> simp
    | _ => cases h[id]? <;> rfl
theorem delM_I (id : Nat) (e : TypeId) (ck : Nat) (ms : Ents) (k : Int) : delM h id (some (.int .i64, e)) (some (ck, mpI ms)) (.one (.int .i64 k)) = some (.tup [], h.set id (some (.mp ck (mpI (mdelI k ms)))), [id]) := by
  simp only [delM, Option.bind_some, isKeyL, decide_true, if_true, delE_I, Option.map_some]
def isMap (P : Program) (t : TypeId) : Bool := match P.underlying t with
  | some (.map _ _) => true
  | _ => false
def lenMK (P : Program) (t : TypeId) : Option (Nat × List (Leaf × V × Nat)) → Option V
  | some m => if isMap P t then some (.one (.int .i64 (m.2.length : Nat))) else none
  | none => none
theorem len_map (a : TypeId) (id : Nat) : lenK P a h (.one (.map id)) = lenMK P a (mapAt h id) := by
  unfold lenK lenMK lenOK isMap mapAt
  simp only [lenL]
  cases P.underlying a with
  | none =>
    cases h[id]? with
    | none => rfl
    | some o =>
      cases o with
      | none => rfl
      | some o => cases o <;> rfl
  | some d =>
    cases d <;> (
      cases h[id]? with
      | none => rfl
      | some o =>
        cases o with
        | none => rfl
        | some o => cases o <;> rfl)
theorem lenMK_some (a : TypeId) (ck : Nat) (es : List (Leaf × V × Nat)) : lenMK P a (some (ck, es)) = if isMap P a then some (.one (.int .i64 (es.length : Nat))) else none := rfl
/-! Maps that never change. -/
def imI (g : Bool) (ms : Ents) : Leaf := .imap (ms.map fun e => .int .i64 e.1) g (ms.map fun e => e.2.1.cells)
def oneT : V → Bool
  | .one l => treeL l
  | _ => false
def aggT : V → Bool
  | .agg cs => treeC cs
  | _ => false
def treeM1 (ms : Ents) : Bool := ms.all fun e => oneT e.2.1
def treeMA (ms : Ents) : Bool := ms.all fun e => aggT e.2.1
theorem treeM1_nil : treeM1 [] = true := rfl
theorem allV_put {p : V → Bool} {k : Int} {v : V} {ck : Nat} (hv : p v = true) : ∀ {ms : Ents}, (ms.all fun e => p e.2.1) = true → ((mputI k v ck ms).all fun e => p e.2.1) = true
  | [], _ => by simp [mputI, hv]
  | e :: es, h => by
    simp only [List.all_cons, Bool.and_eq_true] at h
    have ih := allV_put (k := k) (ck := ck) hv (ms := es) h.2
    unfold mputI
    split
    · simp only [List.all_cons, hv, h.2, Bool.and_self]
    · simp only [List.all_cons, h.1, ih, Bool.and_self]
theorem treeM1_put {k : Int} {v : V} {ck : Nat} {ms : Ents} (hv : oneT v = true) (h : treeM1 ms = true) : treeM1 (mputI k v ck ms) = true := allV_put hv h
def mapZ (h : Heap) (n0 : Nat) (L : List (Option Nat)) (k : Nat) : Option (Nat × List (Leaf × V × Nat)) → Option Leaf
  | some m => fzMapM (fzL h n0 L k) m.2
  | none => none
theorem fzL_map (k id : Nat) : fzL h n0 L (k + 1) (.map id) = if goes n0 L id = true then mapZ h n0 L k (mapAt h id) else none := by
  simp only [fzL, mapAt]
  split
  · cases h[id]? with
    | none => rfl
    | some o =>
      cases o with
      | none => rfl
      | some o => cases o <;> rfl
  · rfl
def mapY (h : Heap) (n0 : Nat) (L : List (Option Nat)) (k : Nat) (ms : Ents) : Bool → Bool → Option Leaf
  | true, _ => some (imI false ms)
  | false, true => some (imI true ms)
  | false, false => fzMapM (fzL h n0 L (k + 1)) (mpI ms)
theorem mapO_map {α β γ : Type} (f : β → Option γ) (g : α → β) : ∀ (l : List α), mapO f (l.map g) = mapO (fun x => f (g x)) l
  | [] => rfl
  | x :: l => by simp only [List.map_cons, mapO, mapO_map f g l]
theorem mapO_fun {α β : Type} {f : α → Option β} {g : α → β} : ∀ {l : List α}, (∀ x, x ∈ l → f x = some (g x)) → mapO f l = some (l.map g)
  | [], _ => rfl
  | x :: l, h => by simp [mapO, h x List.mem_cons_self, mapO_fun fun y hy => h y (List.mem_cons_of_mem _ hy)]
theorem mapZ_I (k ck : Nat) (ms : Ents) : mapZ h n0 L (k + 1) (some (ck, mpI ms)) = mapY h n0 L k ms (treeM1 ms) (treeMA ms) := by
  have keys : mapO (fun e : Leaf × V × Nat => fzL h n0 L (k + 1) e.1) (mpI ms) = some (ms.map fun e => .int .i64 e.1) := by
    unfold mpI
    rw [mapO_map]
    exact mapO_fun fun x hx => rfl
  cases h1 : treeM1 ms with
  | true =>
    have hg : aggM (mpI ms) = false := by
      cases ms with
      | nil => rfl
      | cons e es =>
        obtain ⟨a, v, b⟩ := e
        simp only [treeM1, List.all_cons, Bool.and_eq_true] at h1
        cases v with
        | agg cs => cases h1.1
        | _ => rfl
    simp only [mapZ, fzMapM, keys, hg, mapY]
    have rows : mapO (fun e : Leaf × V × Nat => fzCellsM (fzL h n0 L (k + 1)) false e.2.1) (mpI ms) = some (ms.map fun e => e.2.1.cells) := by
      unfold mpI
      rw [mapO_map]
      refine mapO_fun fun x hx => ?_
      have := List.all_eq_true.1 h1 x hx
      cases hv : x.2.1 with
      | one l =>
        rw [hv] at this
        simp only [hv, fzCellsM, Bool.false_eq_true, if_false, fzL_plain (show treeL l = true from this) k]; rfl
      | _ => rw [hv] at this; cases this
    rw [rows]; rfl
  | false =>
    cases h2 : treeMA ms with
    | false => rfl
    | true =>
      have hg : aggM (mpI ms) = true := by
        cases ms with
        | nil => cases h1
        | cons e es =>
          obtain ⟨a, v, b⟩ := e
          simp only [treeMA, List.all_cons, Bool.and_eq_true] at h2
          cases v with
          | agg cs => rfl
          | _ => cases h2.1
      simp only [mapZ, fzMapM, keys, hg, mapY]
      have rows : mapO (fun e : Leaf × V × Nat => fzCellsM (fzL h n0 L (k + 1)) true e.2.1) (mpI ms) = some (ms.map fun e => e.2.1.cells) := by
        unfold mpI
        rw [mapO_map]
        refine mapO_fun fun x hx => ?_
        have := List.all_eq_true.1 h2 x hx
        cases hv : x.2.1 with
        | agg cs =>
          rw [hv] at this
          simp only [hv, fzCellsM, if_true, mapL_plain (show treeC cs = true from this) k]; rfl
        | _ => rw [hv] at this; cases this
      rw [rows]; rfl
theorem mapY_one (k : Nat) (ms : Ents) (b : Bool) : mapY h n0 L k ms true b = some (imI false ms) := rfl
theorem mapY_agg (k : Nat) (ms : Ents) : mapY h n0 L k ms false true = some (imI true ms) := rfl
theorem mget_im {g : Bool} {p : V → Bool} (hp : ∀ v, p v = true → entV g v.cells = v) (k : Int) : ∀ {ms : Ents}, (ms.all fun e => p e.2.1) = true →
    findE (.int .i64) (.int .i64 k) (entsOf g (ms.map fun e => .int .i64 e.1) (ms.map fun e => e.2.1.cells)) = some (mgetI k ms)
  | [], _ => rfl
  | e :: es, h => by
    simp only [List.all_cons, Bool.and_eq_true] at h
    have ih := mget_im hp k (ms := es) h.2
    simp only [List.map_cons, entsOf, findE, keyEq, if_true, ih, hp _ h.1]
    by_cases h : k = e.1
    · simp only [h, beq_self_eq_true, mgetI, if_true]
    · rw [beq_eq_false_iff_ne.2 h]
      simp only [mgetI, h, if_false]
theorem look_im1 {a e : TypeId} {ok : Bool} {k : Int} {ms : Ents} (hm : mapT P a = some (.int .i64, e)) (h1 : treeM1 ms = true) : lookupV P h a (.one (imI false ms)) (.one (.int .i64 k)) ok = lookR P e ok (mgetI k ms) := by
  have := mget_im (g := false) (p := oneT) (fun v hv => by cases v <;> first | rfl | cases hv) k h1
  simp only [lookupV, hm, Option.bind_some, imI, mapOf, isKeyL, decide_true, if_true, this]
  cases mgetI k ms <;> rfl
theorem fzT_im (g : Bool) (ms : Ents) : fzT h n0 L (imI g ms) = some (imI g ms) := rfl
theorem ownId_im (g : Bool) (ms : Ents) : ownId n0 (imI g ms) = none := rfl
theorem normL_im (g : Bool) (ms : Ents) : normL (imI g ms) = imI g ms := rfl
theorem plainL_im (g : Bool) (ms : Ents) : plainL (imI g ms) = true := rfl
theorem treeL_im (g : Bool) (ms : Ents) : treeL (imI g ms) = true := rfl
/-! In regions that draw their order. -/
variable {slot b : Nat} {hs : List Nat}
theorem draw_lookup (a : TypeId) (m k : Operand) (ok : Bool) : drawOp P cf slot T h b hs ⟨dst, .lookup a m k ok, ty, pos, after, guard⟩ = heapD b (refsV (ev T m) ++ refsV (ev T k)) [] (absOp P cf none T h ⟨dst, .lookup a m k ok, ty, pos, after, guard⟩) := by
  have e2 : absOp P cf (some slot) T h ⟨dst, .lookup a m k ok, ty, pos, after, guard⟩ = absOp P cf none T h ⟨dst, .lookup a m k ok, ty, pos, after, guard⟩ := rfl
  simp only [drawOp, okOf, e2]
  cases absOp P cf none T h ⟨dst, .lookup a m k ok, ty, pos, after, guard⟩ with
  | none => rfl
  | some r => obtain ⟨v, h', ws⟩ := r; simp [heapD, needsSlot, Op.operands]
theorem draw_mapUpdate (a : TypeId) (m k x : Operand) : drawOp P cf slot T h b hs ⟨dst, .mapUpdate a m k x, ty, pos, after, guard⟩ = heapD b (refsV (ev T m) ++ refsV (ev T k) ++ refsV (ev T x)) [] (absOp P cf none T h ⟨dst, .mapUpdate a m k x, ty, pos, after, guard⟩) := by
  have e2 : absOp P cf (some slot) T h ⟨dst, .mapUpdate a m k x, ty, pos, after, guard⟩ = absOp P cf none T h ⟨dst, .mapUpdate a m k x, ty, pos, after, guard⟩ := rfl
  simp only [drawOp, okOf, e2]
  cases absOp P cf none T h ⟨dst, .mapUpdate a m k x, ty, pos, after, guard⟩ with
  | none => rfl
  | some r => obtain ⟨v, h', ws⟩ := r; simp [heapD, needsSlot, Op.operands]
end
attribute [simp] treeM1_nil fzL_map mapZ_I mapY_one mapY_agg fzT_im ownId_im normL_im plainL_im treeL_im mpI_length plainM_nil plainV fzMp_true objK_mp objK_mp0 mapAt_at0 mapAt_at mapAt_zero mapAt_succ op_makeMap op_lookup lookup_map lookM_I lookR_some lookR_none foundV_t foundV_f op_mapUpdate upd_map updM_I op_delete del_map delM_I len_map lenMK_some draw_lookup draw_mapUpdate
end Go.Proofs.YtkbdhjfjbkmkcaaGreat.Abs
