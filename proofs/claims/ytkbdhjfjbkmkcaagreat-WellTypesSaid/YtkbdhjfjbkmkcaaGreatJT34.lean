/- The abstract machine: regions that draw their order and write, by equations. -/
import Derived.Test.YtkbdhjfjbkmkcaaGreatJT33
set_option linter.unusedSimpArgs false
set_option linter.unusedVariables false
namespace Go.Proofs.YtkbdhjfjbkmkcaaGreat.Abs
open Go Go.RowKit

theorem blank_cons (k : Nat) (ids : List Nat) (h : Heap) : blank (k :: ids) 0 h = blank ids 0 (h.set k none) := by
  apply List.ext_getElem?
  intro i
  rw [blank_get, blank_get, List.getElem?_set, Nat.zero_add]
  by_cases h1 : k = i
  · subst h1
    by_cases h2 : k < h.length
    · simp [h2]
    · simp [h2, List.getElem?_eq_none (show h.length ≤ k by omega)]
  · have h1' : ¬ i = k := fun e => h1 e.symm
    simp [h1, h1']
theorem putBack_cons (k : Nat) (ids : List Nat) (h' h : Heap) : putBack (k :: ids) h' 0 h = putBack ids h' 0 (h.set k (h'[k]?.getD none)) := by
  apply List.ext_getElem?
  intro i
  by_cases hi : i < h.length
  · rw [putBack_get _ _ _ _ _ hi, putBack_get _ _ _ _ _ (by simpa using hi), List.getElem?_set, Nat.zero_add]
    by_cases h1 : k = i
    · subst h1
      simp [hi]
    · have h1' : ¬ i = k := fun e => h1 e.symm
      simp [h1, h1']
  · rw [List.getElem?_eq_none (by rw [putBack_length]; omega), List.getElem?_eq_none (by rw [putBack_length]; simp; omega)]

def moveS (slot n : Nat) : Res → Res
  | some (v, H, ws) => match H.drop n with
    | [] => some (v, H, ws)
    | o :: _ => match H[slot]? with
      | some none => match v with
        | .one l => some (.one (toId slot l), (H.take n).set slot o, ws)
        | _ => none
      | _ => none
  | none => none

section
variable {P : Program} {cf : CF}

theorem moveS_same {slot n : Nat} {v : V} {H : Heap} {ws : List Nat} (hl : H.length ≤ n) : moveS slot n (some (v, H, ws)) = some (v, H, ws) := by
  unfold moveS
  simp only
  rw [List.drop_eq_nil_of_le hl]
theorem allocR_slot (slot : Nat) (h : Heap) (o : AO) (mk : Nat → V) (f : Nat → Leaf) (hf : ∀ i, mk i = .one (f i)) (hm : ∀ i, toId slot (f i) = f slot) : allocR (some slot) h o mk = moveS slot h.length (allocR none h o mk) := by
  unfold allocR put moveS
  simp only [Option.map_some, hf, List.drop_left, List.take_left, hm]
  by_cases hs : slot < h.length
  · rw [List.getElem?_append_left hs]
    cases h[slot]? with
    | none => rfl
    | some x => cases x <;> rfl
  · rw [List.getElem?_eq_none (by omega)]
    simp only [Option.map_none]
    by_cases h2 : slot = h.length
    · subst h2; simp
    · rw [List.getElem?_eq_none (by simp; omega)]

theorem alloc_slot {slot : Nat} {t : Tmps} {h : Heap} {o : Oper} (hk : okOf o = .alloc) : absOp P cf (some slot) t h o = moveS slot h.length (absOp P cf none t h o) := by
  obtain ⟨dst, op, type, pos, after, guard⟩ := o
  cases op <;> simp only [okOf, reduceCtorEq] at hk
  case alloc e =>
    simp only [absOp]
    cases tzero P e with
    | none => rfl
    | some z => exact allocR_slot slot h _ _ (fun id => .ptr id 1 0 0) (fun _ => rfl) (fun _ => rfl)
  case box a x =>
    simp only [absOp]
    split
    · exact allocR_slot slot h _ _ _ (fun _ => rfl) (fun _ => rfl)
    · exact allocR_slot slot h _ _ _ (fun _ => rfl) (fun _ => rfl)
    · rfl
  case buildSlice a len ps =>
    simp only [absOp, buildSliceV]
    cases telem P a with
    | none => rfl
    | some e =>
      simp only [Option.bind_some]
      cases P.info? e with
      | none => rfl
      | some i =>
        simp only [Option.bind_some]
        cases tzero P e with
        | none => rfl
        | some z =>
          simp only [Option.bind_some]
          split
          · rfl
          · generalize fillAt (fun k => some (k * i.size, i.size)) _ _ = q
            cases q with
            | none => rfl
            | some cs => exact allocR_slot slot h _ _ (fun id => .sl id i.size len 0 len) (fun _ => rfl) (fun _ => rfl)
  case makeSlice a l c =>
    simp only [absOp, makeSliceV]
    cases telem P a with
    | none => rfl
    | some e =>
      simp only [Option.bind_some]
      cases P.info? e with
      | none => rfl
      | some i =>
        simp only [Option.bind_some]
        cases tzero P e with
        | none => rfl
        | some z =>
          simp only [Option.bind_some]
          cases natOf (ev t l) with
          | none => rfl
          | some n =>
            simp only [Option.bind_some]
            cases natOf (ev t c) with
            | none => rfl
            | some m =>
              simp only [Option.bind_some]
              split
              · exact allocR_slot slot h _ _ (fun id => .sl id i.size n 0 n) (fun _ => rfl) (fun _ => rfl)
              · rfl
  case makeMap ty r =>
    cases r with
    | none => exact allocR_slot slot h _ _ (fun id => .map id) (fun _ => rfl) (fun _ => rfl)
    | some x => rfl
  case call c =>
    obtain ⟨callee, args, tys⟩ := c
    cases callee <;> simp only [okOf, reduceCtorEq] at hk

theorem append_slot {slot : Nat} {h : Heap} {t tx : TypeId} {s x : V} : appendV P (some slot) h t tx s x = moveS slot h.length (appendV P none h t tx s x) := by
  unfold appendV
  cases telem P t with
  | none => rfl
  | some e =>
    simp only [Option.bind_some]
    cases P.info? e with
    | none => rfl
    | some i =>
      simp only [Option.bind_some]
      cases tzero P e with
      | none => rfl
      | some z =>
        simp only [Option.bind_some]
        cases srcOf P h i.size tx x with
        | none => rfl
        | some xs =>
          simp only [Option.bind_some]
          split
          · rfl
          · split
            · split
              · rw [moveS_same (Nat.le_refl _)]
              · split
                · exact allocR_slot slot h _ _ _ (fun _ => rfl) (fun _ => rfl)
                · rfl
            · split
              · rw [moveS_same (Nat.le_refl _)]
              · split
                · exact allocR_slot slot h _ _ _ (fun _ => rfl) (fun _ => rfl)
                · rfl
            · rename_i id esz sz off len
              cases rowAt h id sz with
              | none => rfl
              | some r =>
                simp only [Option.bind_some]
                split
                · rfl
                · split
                  · split
                    · rw [moveS_same (Nat.le_refl _)]
                    · rfl
                  · split
                    · split
                      · rw [moveS_same (by simp)]
                      · rfl
                    · split
                      · rw [moveS_same (by simp)]
                      · rfl
            · rfl
end

section
variable (P : Program) (cf : CF) (slot : Nat) (t : Tmps) (h : Heap) (b : Nat) (hs : List Nat) (dst : Option Nat) (ty : TypeId) (pos : String) (after : Array Edge) (guard : Option (Nat × Bool))

def pureD (h : Heap) (b : Nat) : Res → Option (V × Heap × List Nat × Rec)
  | some (v, [], _) => some (v, h, [], ⟨b, false, [], [], [], none⟩)
  | _ => none
def allocD (b slot : Nat) : Res → Option (V × Heap × List Nat × Rec)
  | some (v, h', ws) => some (v, h', ws, ⟨b, false, [], [], [slot], none⟩)
  | none => none
def heapD (b : Nat) (reads more : List Nat) : Res → Option (V × Heap × List Nat × Rec)
  | some (v, h', ws) => some (v, h', ws, ⟨b, false, reads, [], more ++ ws, none⟩)
  | none => none
def storeD (b : Nat) (n : Nat) : V → Res → Option (V × Heap × List Nat × Rec)
  | .one (.ptr id _ e off), some (v, h', ws) => some (v, h', ws, ⟨b, false, [], [], [id], some (id, e, off, n)⟩)
  | _, _ => none
def callD (h : Heap) (b : Nat) (hs : List Nat) : Res → Option (V × Heap × List Nat × Rec)
  | some (v, h', ws) => if h'.length = h.length then some (v, putBack ws h' 0 h, ws, ⟨b, true, [], hs, ws, none⟩) else none
  | none => none

theorem draw_pure {o : Oper} (hk : okOf o = .pure) : drawOp P cf slot t h b hs o = pureD h b (absOp P cf none t [] o) := by
  simp only [drawOp, hk, pureD]
  cases absOp P cf none t [] o with
  | none => rfl
  | some r => obtain ⟨v, h', ws⟩ := r; cases h' <;> rfl
theorem draw_alloc {o : Oper} (hk : okOf o = .alloc) : drawOp P cf slot t h b hs o = allocD b slot (moveS slot h.length (absOp P cf none t h o)) := by
  simp only [drawOp, hk, allocD, alloc_slot hk]
  cases moveS slot h.length (absOp P cf none t h o) <;> rfl

theorem draw_move (x : Operand) : drawOp P cf slot t h b hs ⟨dst, .move x, ty, pos, after, guard⟩ = pureD h b (absOp P cf none t [] ⟨dst, .move x, ty, pos, after, guard⟩) := draw_pure _ _ _ _ _ _ _ rfl
theorem draw_assign (x : Operand) : drawOp P cf slot t h b hs ⟨dst, .assign x, ty, pos, after, guard⟩ = pureD h b (absOp P cf none t [] ⟨dst, .assign x, ty, pos, after, guard⟩) := draw_pure _ _ _ _ _ _ _ rfl
theorem draw_pick (x y z : Operand) : drawOp P cf slot t h b hs ⟨dst, .pick x y z, ty, pos, after, guard⟩ = pureD h b (absOp P cf none t [] ⟨dst, .pick x y z, ty, pos, after, guard⟩) := draw_pure _ _ _ _ _ _ _ rfl
theorem draw_build (a : TypeId) (ps : Array (Nat × Operand)) : drawOp P cf slot t h b hs ⟨dst, .build a ps, ty, pos, after, guard⟩ = pureD h b (absOp P cf none t [] ⟨dst, .build a ps, ty, pos, after, guard⟩) := draw_pure _ _ _ _ _ _ _ rfl
theorem draw_nilCheck (x : Operand) : drawOp P cf slot t h b hs ⟨dst, .nilCheck x, ty, pos, after, guard⟩ = pureD h b (absOp P cf none t [] ⟨dst, .nilCheck x, ty, pos, after, guard⟩) := draw_pure _ _ _ _ _ _ _ rfl
theorem draw_fieldAddr (a : TypeId) (x : Operand) (f : Nat) : drawOp P cf slot t h b hs ⟨dst, .fieldAddr a x f, ty, pos, after, guard⟩ = pureD h b (absOp P cf none t [] ⟨dst, .fieldAddr a x f, ty, pos, after, guard⟩) := draw_pure _ _ _ _ _ _ _ rfl
theorem draw_field (a : TypeId) (x : Operand) (f : Nat) : drawOp P cf slot t h b hs ⟨dst, .field a x f, ty, pos, after, guard⟩ = pureD h b (absOp P cf none t [] ⟨dst, .field a x f, ty, pos, after, guard⟩) := draw_pure _ _ _ _ _ _ _ rfl
theorem draw_indexAddr (a : TypeId) (x i : Operand) : drawOp P cf slot t h b hs ⟨dst, .indexAddr a x i, ty, pos, after, guard⟩ = pureD h b (absOp P cf none t [] ⟨dst, .indexAddr a x i, ty, pos, after, guard⟩) := draw_pure _ _ _ _ _ _ _ rfl
theorem draw_index (a : TypeId) (x i : Operand) : drawOp P cf slot t h b hs ⟨dst, .index a x i, ty, pos, after, guard⟩ = pureD h b (absOp P cf none t [] ⟨dst, .index a x i, ty, pos, after, guard⟩) := draw_pure _ _ _ _ _ _ _ rfl
theorem draw_alloc' (a : TypeId) : drawOp P cf slot t h b hs ⟨dst, .alloc a, ty, pos, after, guard⟩ = allocD b slot (moveS slot h.length (absOp P cf none t h ⟨dst, .alloc a, ty, pos, after, guard⟩)) := draw_alloc _ _ _ _ _ _ _ rfl
theorem draw_box (a : TypeId) (x : Operand) : drawOp P cf slot t h b hs ⟨dst, .box a x, ty, pos, after, guard⟩ = allocD b slot (moveS slot h.length (absOp P cf none t h ⟨dst, .box a x, ty, pos, after, guard⟩)) := draw_alloc _ _ _ _ _ _ _ rfl
theorem draw_makeSlice (a : TypeId) (l c : Operand) : drawOp P cf slot t h b hs ⟨dst, .makeSlice a l c, ty, pos, after, guard⟩ = allocD b slot (moveS slot h.length (absOp P cf none t h ⟨dst, .makeSlice a l c, ty, pos, after, guard⟩)) := draw_alloc _ _ _ _ _ _ _ rfl
theorem draw_buildSlice (a : TypeId) (n : Nat) (ps : Array (Nat × Operand)) : drawOp P cf slot t h b hs ⟨dst, .buildSlice a n ps, ty, pos, after, guard⟩ = allocD b slot (moveS slot h.length (absOp P cf none t h ⟨dst, .buildSlice a n ps, ty, pos, after, guard⟩)) := draw_alloc _ _ _ _ _ _ _ rfl
theorem draw_load (a : TypeId) (x : Operand) : drawOp P cf slot t h b hs ⟨dst, .load a x, ty, pos, after, guard⟩ = heapD b (refsV (ev t x)) [] (absOp P cf none t h ⟨dst, .load a x, ty, pos, after, guard⟩) := by
  have e : absOp P cf (some slot) t h ⟨dst, .load a x, ty, pos, after, guard⟩ = absOp P cf none t h ⟨dst, .load a x, ty, pos, after, guard⟩ := rfl
  simp only [drawOp, okOf, e]
  cases absOp P cf none t h ⟨dst, .load a x, ty, pos, after, guard⟩ with
  | none => rfl
  | some r => obtain ⟨v, h', ws⟩ := r; simp [heapD, needsSlot, Op.operands]
theorem draw_convert (a c : TypeId) (x : Operand) : drawOp P cf slot t h b hs ⟨dst, .convert a c x, ty, pos, after, guard⟩ = heapD b (refsV (ev t x)) [] (absOp P cf none t h ⟨dst, .convert a c x, ty, pos, after, guard⟩) := by
  have e : absOp P cf (some slot) t h ⟨dst, .convert a c x, ty, pos, after, guard⟩ = absOp P cf none t h ⟨dst, .convert a c x, ty, pos, after, guard⟩ := rfl
  simp only [drawOp, okOf, e]
  cases absOp P cf none t h ⟨dst, .convert a c x, ty, pos, after, guard⟩ with
  | none => rfl
  | some r => obtain ⟨v, h', ws⟩ := r; simp [heapD, needsSlot, Op.operands]

theorem draw_binOp (op : BinOp) (a : TypeId) (x y : Operand) (z : _) : drawOp P cf slot t h b hs ⟨dst, .binOp op a x y z, ty, pos, after, guard⟩ = pureD h b (absOp P cf none t [] ⟨dst, .binOp op a x y z, ty, pos, after, guard⟩) := draw_pure _ _ _ _ _ _ _ rfl
theorem draw_unOp (op : UnOp) (a : TypeId) (x : Operand) : drawOp P cf slot t h b hs ⟨dst, .unOp op a x, ty, pos, after, guard⟩ = pureD h b (absOp P cf none t [] ⟨dst, .unOp op a x, ty, pos, after, guard⟩) := draw_pure _ _ _ _ _ _ _ rfl
theorem draw_extract (x : Operand) (i : Nat) : drawOp P cf slot t h b hs ⟨dst, .extract x i, ty, pos, after, guard⟩ = pureD h b (absOp P cf none t [] ⟨dst, .extract x i, ty, pos, after, guard⟩) := draw_pure _ _ _ _ _ _ _ rfl
theorem draw_slice (a : TypeId) (x : Operand) (lo hi mx : Option Operand) : drawOp P cf slot t h b hs ⟨dst, .slice a x lo hi mx, ty, pos, after, guard⟩ = pureD h b (absOp P cf none t [] ⟨dst, .slice a x lo hi mx, ty, pos, after, guard⟩) := draw_pure _ _ _ _ _ _ _ rfl
theorem draw_len (x : Operand) (a : TypeId) : drawOp P cf slot t h b hs ⟨dst, .call { callee := .builtin .len, args := #[x], argTypes := #[a] }, ty, pos, after, guard⟩ = heapD b (refsV (ev t x)) [] (absOp P cf none t h ⟨dst, .call { callee := .builtin .len, args := #[x], argTypes := #[a] }, ty, pos, after, guard⟩) := by
  have e : absOp P cf (some slot) t h ⟨dst, .call { callee := .builtin .len, args := #[x], argTypes := #[a] }, ty, pos, after, guard⟩ = absOp P cf none t h ⟨dst, .call { callee := .builtin .len, args := #[x], argTypes := #[a] }, ty, pos, after, guard⟩ := rfl
  simp only [drawOp, okOf, e]
  cases absOp P cf none t h ⟨dst, .call { callee := .builtin .len, args := #[x], argTypes := #[a] }, ty, pos, after, guard⟩ with
  | none => rfl
  | some r =>
    obtain ⟨v, h', ws⟩ := r
    have e2 : (List.map (ev t) (Op.call { callee := .builtin .len, args := #[x], argTypes := #[a] }).operands.toList).flatMap refsV = refsV (ev t x) := by
      show refsV (ev t x) ++ [] = _
      rw [List.append_nil]
    simp only [heapD, needsSlot, e2, Bool.false_eq_true, if_false, List.nil_append]
theorem draw_append (x y : Operand) (a c : TypeId) : drawOp P cf slot t h b hs ⟨dst, .call { callee := .builtin .append, args := #[x, y], argTypes := #[a, c] }, ty, pos, after, guard⟩ = heapD b (refsV (ev t x) ++ refsV (ev t y)) [slot] (moveS slot h.length (absOp P cf none t h ⟨dst, .call { callee := .builtin .append, args := #[x, y], argTypes := #[a, c] }, ty, pos, after, guard⟩)) := by
  have e : absOp P cf (some slot) t h ⟨dst, .call { callee := .builtin .append, args := #[x, y], argTypes := #[a, c] }, ty, pos, after, guard⟩ = moveS slot h.length (absOp P cf none t h ⟨dst, .call { callee := .builtin .append, args := #[x, y], argTypes := #[a, c] }, ty, pos, after, guard⟩) := append_slot
  simp only [drawOp, okOf, e]
  cases moveS slot h.length (absOp P cf none t h ⟨dst, .call { callee := .builtin .append, args := #[x, y], argTypes := #[a, c] }, ty, pos, after, guard⟩) with
  | none => rfl
  | some r =>
    obtain ⟨v, h', ws⟩ := r
    have e2 : (List.map (ev t) (Op.call { callee := .builtin .append, args := #[x, y], argTypes := #[a, c] }).operands.toList).flatMap refsV = refsV (ev t x) ++ refsV (ev t y) := by
      show refsV (ev t x) ++ (refsV (ev t y) ++ []) = _
      rw [List.append_nil]
    simp only [heapD, needsSlot, e2, if_true, List.cons_append, List.nil_append]
theorem draw_store (a : TypeId) (x y : Operand) : drawOp P cf slot t h b hs ⟨dst, .store a x y, ty, pos, after, guard⟩ = storeD b (ev t y).cells.length (ev t x) (absOp P cf none t h ⟨dst, .store a x y, ty, pos, after, guard⟩) := by
  simp only [drawOp, okOf]
  cases hx : ev t x with
  | one l =>
    cases l <;> first | rfl | skip
    simp only [storeD]
    cases absOp P cf none t h ⟨dst, .store a x y, ty, pos, after, guard⟩ with
    | none => rfl
    | some r => rfl
  | junk => rfl
  | agg _ => rfl
  | tup _ => rfl
theorem draw_call (f : Operand) (args : Array Operand) (tys : Array TypeId) : drawOp P cf slot t h b hs ⟨dst, .call { callee := .value f, args := args, argTypes := tys }, ty, pos, after, guard⟩ = callD h b hs (absOp P cf none t (blank hs 0 h) ⟨dst, .call { callee := .value f, args := args, argTypes := tys }, ty, pos, after, guard⟩) := by
  simp only [drawOp, okOf, callD]
  cases absOp P cf none t (blank hs 0 h) ⟨dst, .call { callee := .value f, args := args, argTypes := tys }, ty, pos, after, guard⟩ with
  | none => rfl
  | some r => rfl
theorem pureD_some (v : V) (ws : List Nat) : pureD h b (some (v, [], ws)) = some (v, h, [], ⟨b, false, [], [], [], none⟩) := rfl
theorem allocD_some (v : V) (ws : List Nat) : allocD b slot (some (v, h, ws)) = some (v, h, ws, ⟨b, false, [], [], [slot], none⟩) := rfl
theorem heapD_some (v : V) (ws reads more : List Nat) : heapD b reads more (some (v, h, ws)) = some (v, h, ws, ⟨b, false, reads, [], more ++ ws, none⟩) := rfl
theorem storeD_some (v : V) (ws : List Nat) (n id sz e off : Nat) : storeD b n (.one (.ptr id sz e off)) (some (v, h, ws)) = some (v, h, ws, ⟨b, false, [], [], [id], some (id, e, off, n)⟩) := rfl
theorem callD_some (h' : Heap) (v : V) (ws : List Nat) : callD h b hs (some (v, h', ws)) = if h'.length = h.length then some (v, putBack ws h' 0 h, ws, ⟨b, true, [], hs, ws, none⟩) else none := rfl
theorem refsV_one (l : Leaf) : refsV (.one l) = refsL l := rfl
theorem refsV_agg (cs : List Leaf) : refsV (.agg cs) = cs.flatMap refsL := rfl
theorem refsV_tup (vs : List V) : refsV (.tup vs) = [] := rfl
theorem cellsV_one (l : Leaf) : (V.one l).cells = [l] := rfl
theorem cellsV_agg (cs : List Leaf) : (V.agg cs).cells = cs := rfl
end

section
variable (P : Program) (C : Cfg) (cf : CF) (N : Nat) (ops : Array Oper) (base : Nat)

def goK (rest : List Oper) (xs : List (OK × Inf)) (recs : List Rec) (dst : Option Nat) (t : Tmps) (ws : List Nat) : Option (V × Heap × List Nat × Rec) → Option (List Rec × St)
  | some (v, h, ws', r) => goI P cf N ops base rest xs (recs ++ [r]) ⟨setD N t dst v, h, ws ++ ws'⟩
  | none => none
def goG (o : Oper) (x : OK × Inf) (rest : List Oper) (xs : List (OK × Inf)) (recs : List Rec) (s : St) : Option Bool → Option (List Rec × St)
  | none => none
  | some false => goI P cf N ops base rest xs (recs ++ [⟨x.2.b, false, [], [], [], none⟩]) { s with tmps := setD N s.tmps o.dst (.tup []) }
  | some true => goK P cf N ops base rest xs recs o.dst s.tmps s.ws (drawOp P cf (base + x.2.off) s.tmps s.heap x.2.b (holesI x.2.ah recs ++ x.2.later.map (base + ·)) o)
theorem go_nil (xs : List (OK × Inf)) (recs : List Rec) (s : St) : goI P cf N ops base [] xs recs s = some (recs, s) := by unfold goI; rfl
theorem go_any (o : Oper) (x : OK × Inf) (rest : List Oper) (xs : List (OK × Inf)) (recs : List Rec) (s : St) : goI P cf N ops base (o :: rest) (x :: xs) recs s = goG P cf N ops base o x rest xs recs s (wantedA ops s.tmps o) := by
  rw [goI]
  cases wantedA ops s.tmps o with
  | none => rfl
  | some w =>
    cases w with
    | false => rfl
    | true =>
      simp only [goG]
      cases drawOp P cf (base + x.2.off) s.tmps s.heap x.2.b (holesI x.2.ah recs ++ x.2.later.map (base + ·)) o with
      | none => rfl
      | some r => rfl
theorem go_cons (dst : Option Nat) (op : Op) (ty : TypeId) (pos : String) (after : Array Edge) (k : OK) (b off : Nat) (ah : List Bool) (later : List Nat) (rest : List Oper) (xs : List (OK × Inf)) (recs : List Rec) (t : Tmps) (h : Heap) (ws : List Nat) :
    goI P cf N ops base (⟨dst, op, ty, pos, after, none⟩ :: rest) ((k, ⟨b, off, ah, later⟩) :: xs) recs ⟨t, h, ws⟩ = goK P cf N ops base rest xs recs dst t ws (drawOp P cf (base + off) t h b (holesI ah recs ++ later.map (base + ·)) ⟨dst, op, ty, pos, after, none⟩) := by
  rw [go_any]; rfl
theorem go_guard (dst : Option Nat) (op : Op) (ty : TypeId) (pos : String) (after : Array Edge) (g : Nat) (w : Bool) (k : OK) (b off : Nat) (ah : List Bool) (later : List Nat) (rest : List Oper) (xs : List (OK × Inf)) (recs : List Rec) (t : Tmps) (h : Heap) (ws : List Nat) :
    goI P cf N ops base (⟨dst, op, ty, pos, after, some (g, w)⟩ :: rest) ((k, ⟨b, off, ah, later⟩) :: xs) recs ⟨t, h, ws⟩ = goG P cf N ops base ⟨dst, op, ty, pos, after, some (g, w)⟩ (k, ⟨b, off, ah, later⟩) rest xs recs ⟨t, h, ws⟩ (wantD t w (dstAt ops.toList g)) := by
  rw [go_any, want_guard]
theorem goG_false (o : Oper) (k : OK) (b off : Nat) (ah : List Bool) (later : List Nat) (rest : List Oper) (xs : List (OK × Inf)) (recs : List Rec) (s : St) : goG P cf N ops base o (k, ⟨b, off, ah, later⟩) rest xs recs s (some false) = goI P cf N ops base rest xs (recs ++ [⟨b, false, [], [], [], none⟩]) { s with tmps := setD N s.tmps o.dst (.tup []) } := rfl
theorem goG_true (o : Oper) (k : OK) (b off : Nat) (ah : List Bool) (later : List Nat) (rest : List Oper) (xs : List (OK × Inf)) (recs : List Rec) (t : Tmps) (h : Heap) (ws : List Nat) : goG P cf N ops base o (k, ⟨b, off, ah, later⟩) rest xs recs ⟨t, h, ws⟩ (some true) = goK P cf N ops base rest xs recs o.dst t ws (drawOp P cf (base + off) t h b (holesI ah recs ++ later.map (base + ·)) o) := rfl
theorem goK_some (rest : List Oper) (xs : List (OK × Inf)) (recs : List Rec) (dst : Option Nat) (t : Tmps) (ws : List Nat) (v : V) (h : Heap) (ws' : List Nat) (r : Rec) : goK P cf N ops base rest xs recs dst t ws (some (v, h, ws', r)) = goI P cf N ops base rest xs (recs ++ [r]) ⟨setD N t dst v, h, ws ++ ws'⟩ := rfl
theorem holes_nil (rs : List Rec) : holesI [] rs = [] := rfl
theorem holes_true (as : List Bool) (r : Rec) (rs : List Rec) : holesI (true :: as) (r :: rs) = holesI as rs := rfl
theorem holes_false (as : List Bool) (r : Rec) (rs : List Rec) : holesI (false :: as) (r :: rs) = r.touched ++ holesI as rs := rfl

def endI (un : List (Nat × Nat)) : Option (List Rec × St) → Option St
  | some (recs, s) => if unOK un recs then some s else none
  | none => none
theorem endI_some (un : List (Nat × Nat)) (recs : List Rec) (s : St) : endI un (some (recs, s)) = if unOK un recs then some s else none := rfl
noncomputable def drawD (s : St) : Option Info → Option St
  | some inf => match endI inf.un (goI P (CIR P C) N ops s.heap.length ops.toList inf.ops [] ⟨s.tmps, s.heap ++ List.replicate inf.cnt none, s.ws⟩) with
    | some s' => some s'
    | none => absDraw P (CIR P C) N ops s
  | none => absDraw P (CIR P C) N ops s
def orD (d : Option St) : Option St → Option St
  | some s => some s
  | none => d
theorem orD_some (d : Option St) (s : St) : orD d (some s) = some s := rfl
theorem drawD_some (t : Tmps) (h : Heap) (ws : List Nat) (cnt : Nat) (xs : List (OK × Inf)) (un : List (Nat × Nat)) : drawD P C N ops ⟨t, h, ws⟩ (some ⟨cnt, xs, un⟩) =
    orD (drawK P C N ops ⟨t, h, ws⟩) (endI un (goI P (CIR P C) N ops h.length ops.toList xs [] ⟨t, h ++ List.replicate cnt none, ws⟩)) := by
  simp only [drawD, drawK]
  cases endI un (goI P (CIR P C) N ops h.length ops.toList xs [] ⟨t, h ++ List.replicate cnt none, ws⟩) <;> rfl
theorem drawD_eq (s : St) (o : Option Info) (ho : infoOf ops N = o) : drawK P C N ops s = drawD P C N ops s o := by
  unfold drawK drawD
  cases o with
  | none => rfl
  | some inf =>
    simp only
    cases he : endI inf.un (goI P (CIR P C) N ops s.heap.length ops.toList inf.ops [] ⟨s.tmps, s.heap ++ List.replicate inf.cnt none, s.ws⟩) with
    | none => rfl
    | some s' =>
      refine draw_info ho ?_
      unfold drawI
      unfold endI at he
      split at he
      · rename_i recs s1 hg
        rw [hg]
        exact he
      · cases he

noncomputable def drawZ (s : St) : Option St := drawK P C N ops s
theorem drawD_go (t : Tmps) (h : Heap) (ws : List Nat) (cnt : Nat) (xs : List (OK × Inf)) (un : List (Nat × Nat)) : drawD P C N ops ⟨t, h, ws⟩ (some ⟨cnt, xs, un⟩) =
    orD (drawZ P C N ops ⟨t, h, ws⟩) (endI un (goI P (CIR P C) N ops h.length ops.toList xs [] ⟨t, h ++ List.replicate cnt none, ws⟩)) := drawD_some P C N ops t h ws cnt xs un
theorem drawK_any (s : St) : drawK P C N ops s = quietPick (drawD P C N ops s (infoOf ops N)) (quietB ops N) (quietOps P (CIR P C) N ops ops.toList s) := by
  rw [← drawD_eq P C N ops s _ rfl]
  rw [drawK_eq]
  cases quietB ops N <;> cases quietOps P (CIR P C) N ops ops.toList s <;> rfl
theorem quietPick_none (d : Option St) (b : Bool) : quietPick d b none = d := by cases b <;> rfl
theorem quietPick_false (d : Option St) (s : Option St) : quietPick d false s = d := rfl
theorem quietK_bad (l : List Oper) (dst : Option Nat) (t : Tmps) (h h' : Heap) (ws : List Nat) (v : V) (k : Nat) (ks : List Nat) : quietK P cf N ops l dst t h ws (some (v, h', k :: ks)) = none := rfl

def infoRegs (tab : List (Nat × Bool × Info)) : Code → Bool
  | .seq a b => infoRegs tab a && infoRegs tab b
  | .cond _ a b => infoRegs tab a && infoRegs tab b
  | .block _ c => infoRegs tab c
  | .loop c => infoRegs tab c
  | .scope c => infoRegs tab c
  | .region id ops true => match tab.lookup id with
    | some x => decide (quietB ops N = x.1) && decide (infoOf ops N = some x.2)
    | none => true
  | _ => true
def infoFn (fn : Func) (tab : List (Nat × Bool × Info)) : Bool := match fn.body with
  | some b => infoRegs N tab b
  | none => true
end
def move2 (slot : Nat) (Ht : Heap) (ws : List Nat) (x : Option AO) : V → Option (Option AO) → Res
  | .one l, some none => some (.one (toId slot l), Ht.set slot x, ws)
  | _, _ => none
def moveK (slot : Nat) (v : V) (H Ht : Heap) (ws : List Nat) (o : Option (Option AO)) : Heap → Res
  | [] => some (v, H, ws)
  | x :: _ => move2 slot Ht ws x v o
theorem moveS_eq (slot n : Nat) (v : V) (H : Heap) (ws : List Nat) : moveS slot n (some (v, H, ws)) = moveK slot v H (H.take n) ws H[slot]? (H.drop n) := by
  simp only [moveS]
  generalize H.drop n = d
  cases d with
  | nil => rfl
  | cons x l =>
    simp only [moveK, move2]
    cases H[slot]? with
    | none => cases v <;> rfl
    | some o => cases o <;> cases v <;> rfl
theorem moveK_nil (slot : Nat) (v : V) (H Ht : Heap) (ws : List Nat) (o : Option (Option AO)) : moveK slot v H Ht ws o [] = some (v, H, ws) := rfl
theorem moveK_cons (slot : Nat) (v : V) (H Ht : Heap) (ws : List Nat) (o : Option (Option AO)) (x : Option AO) (l : Heap) : moveK slot v H Ht ws o (x :: l) = move2 slot Ht ws x v o := rfl
theorem move2_one (slot : Nat) (Ht : Heap) (ws : List Nat) (x : Option AO) (l : Leaf) : move2 slot Ht ws x (.one l) (some none) = some (.one (toId slot l), Ht.set slot x, ws) := rfl
theorem take_at {h t : Heap} (j : Nat) : (h ++ t).take (h.length + j) = h ++ t.take j := by
  rw [List.take_length_add_append]
theorem drop_at {h t : Heap} (j : Nat) : (h ++ t).drop (h.length + j) = t.drop j := by
  rw [List.drop_length_add_append]
attribute [simp] moveS_eq moveK_nil moveK_cons move2_one take_at drop_at
attribute [simp] drawK_any quietPick_none quietPick_false quietK_bad drawD_go orD_some endI_some go_nil go_cons go_guard goG_false goG_true goK_some holes_nil holes_true holes_false
  draw_move draw_assign draw_pick draw_build draw_nilCheck draw_fieldAddr draw_field draw_indexAddr draw_index draw_binOp draw_unOp draw_extract draw_slice draw_alloc' draw_box draw_makeSlice draw_buildSlice draw_load draw_convert draw_len draw_append draw_store draw_call
  pureD_some allocD_some heapD_some storeD_some callD_some refsV_one refsV_agg refsV_tup refsL cellsV_one cellsV_agg blank_cons blank_nil putBack_cons putBack_nil
end Go.Proofs.YtkbdhjfjbkmkcaaGreat.Abs
