/- The abstract machine: regions that draw their order and write nothing run as if in the order of their text. -/
import Derived.Test.YtkbdhjfjbkmkcaaGreatJT28
set_option linter.unusedSimpArgs false
set_option linter.unusedVariables false
namespace Go.Proofs.YtkbdhjfjbkmkcaaGreat.Abs
open Go Go.RowKit

def quietKind (o : Oper) : Bool :=
  match okOf o with
  | .pure => true
  | .heap => !needsSlot o
  | .call => true
  | _ => false

def takesAll (ops : Array Oper) (bs : List Nat) : List Oper → Nat → Bool
  | [], _ => true
  | o :: r, i => takesOK bs (bs.getD i 0) i (opTmps o ++ guardTmp ops o) ops.toList 0 && takesAll ops bs r (i + 1)

def quietB (ops : Array Oper) (N : Nat) : Bool :=
  nodupB (ops.toList.filterMap (·.dst)) && edgesOK ops.toList 0 && ((ops.toList.filterMap (·.dst)).all fun d => decide (d < N)) && ops.toList.all quietKind && takesAll ops (befores ops.toList []) ops.toList 0

def quietOps (P : Program) (cf : CF) (N : Nat) (ops : Array Oper) : List Oper → St → Option St
  | [], s => some s
  | o :: rest, s =>
    match wantedA ops s.tmps o with
    | none => none
    | some false => quietOps P cf N ops rest { s with tmps := setD N s.tmps o.dst (.tup []) }
    | some true => match absOp P cf none s.tmps s.heap o with
      | some (v, h', []) => if h'.length = s.heap.length then quietOps P cf N ops rest { s with tmps := setD N s.tmps o.dst v } else none
      | _ => none

section
variable {P : Program} {cf : CF} (hfr : CFFr cf)
include hfr

theorem fr_same {t : Tmps} {h h' : Heap} {o : Oper} {v : V} (e : absOp P cf none t h o = some (v, h', [])) (hl : h'.length = h.length) : h' = h := by
  have f := absOp_fr hfr e
  apply List.ext_getElem?
  intro k
  by_cases hk : k < h.length
  · exact f.2 k hk (by simp) nofun
  · rw [List.getElem?_eq_none (by omega), List.getElem?_eq_none (by omega)]

omit hfr in
theorem noSlot {k : Nat} {t : Tmps} {h : Heap} {o : Oper} (hk : okOf o = .heap) (hn : needsSlot o = false) : absOp P cf (some k) t h o = absOp P cf none t h o := by
  obtain ⟨dst, op, type, pos, after, guard⟩ := o
  cases op <;> simp only [okOf, reduceCtorEq] at hk
  case load => rfl
  case convert => rfl
  case lookup => rfl
  case mapUpdate => rfl
  case mapEntry => rfl
  case entryStore => rfl
  case call c =>
    obtain ⟨callee, args, tys⟩ := c
    cases callee with
    | value f => simp only [okOf, reduceCtorEq] at hk
    | invoke r m => simp only [okOf, reduceCtorEq] at hk
    | builtin b =>
      simp only [absOp]
      split
      · rfl
      · simp [needsSlot] at hn
      · rfl
      · rfl
      · rfl
      · rfl

omit hfr in
theorem blank_nil : ∀ (h : Heap) (i : Nat), blank [] i h = h
  | [], i => rfl
  | o :: h, i => by simp [blank, blank_nil h (i + 1)]
omit hfr in
theorem putBack_nil (h' : Heap) : ∀ (h : Heap) (i : Nat), putBack [] h' i h = h
  | [], i => rfl
  | o :: h, i => by simp [putBack, putBack_nil h' h (i + 1)]

omit hfr in
theorem holesFor_nil {b : Nat} {recs : List Rec} {i : Nat} {slots : List Nat} {l : List Oper} (hr : ∀ r, r ∈ recs → r.touched = []) (hl : ∀ o, o ∈ l → needsSlot o = false) : holesFor b recs i slots l = [] := by
  unfold holesFor
  rw [List.append_eq_nil_iff]
  constructor
  · rw [List.flatMap_eq_nil_iff]
    intro p hp
    split
    · rfl
    · exact hr _ (by
        have := List.mem_zipIdx_iff_getElem?.1 hp
        exact List.mem_of_getElem? this)
  · rw [List.filterMap_eq_nil_iff]
    intro p hp
    have h1 := List.mem_of_getElem? (List.mem_zipIdx_iff_getElem?.1 hp)
    have h2 := hl _ (List.of_mem_zip h1).2
    simp [h2]

theorem drawOp_quiet {slot : Nat} {t : Tmps} {h h' : Heap} {b : Nat} {o : Oper} {v : V} (hq : quietKind o = true) (e : absOp P cf none t h o = some (v, h', [])) (hl : h'.length = h.length) :
    ∃ r, drawOp P cf slot t h b [] o = some (v, h, [], r) ∧ r.touched = [] := by
  have hh := fr_same hfr e hl
  subst hh
  unfold quietKind at hq
  unfold drawOp
  cases hk : okOf o <;> rw [hk] at hq <;> simp only [reduceCtorEq, Bool.false_eq_true] at hq ⊢
  · rw [pure_any hk e []]
    exact ⟨_, rfl, rfl⟩
  · rw [Bool.not_eq_true'] at hq
    rw [noSlot hk hq, e]
    exact ⟨_, rfl, by simp [hq]⟩
  · rw [blank_nil, e]
    simp only [if_true, putBack_nil]
    exact ⟨_, rfl, rfl⟩

omit hfr in
theorem noNeed {o : Oper} (hq : quietKind o = true) : needsSlot o = false := by
  obtain ⟨dst, op, type, pos, after, guard⟩ := o
  cases op <;> first | rfl | (simp [quietKind, okOf] at hq) | skip
  case call c =>
    obtain ⟨callee, args, tys⟩ := c
    cases callee with
    | value f => rfl
    | invoke r m => rfl
    | builtin b => cases b <;> first | rfl | (simp [quietKind, okOf, needsSlot] at hq)

theorem drawGo_quiet {N : Nat} {ops : Array Oper} {slots bs : List Nat} (hall : ops.toList.all quietKind = true) : ∀ (l : List Oper) (i : Nat) (recs : List Rec) (s s' : St), (∀ o, o ∈ l → quietKind o = true) → takesAll ops bs l i = true → (∀ r, r ∈ recs → r.touched = []) →
    quietOps P cf N ops l s = some s' → ∃ recs', drawGo P cf N ops slots bs l i recs s = some (recs', s') ∧ ∀ r, r ∈ recs' → r.touched = []
  | [], i, recs, s, s', hl, ht, hr, e => by cases e; exact ⟨recs, rfl, hr⟩
  | o :: l, i, recs, s, s', hl, ht, hr, e => by
    unfold takesAll at ht
    rw [Bool.and_eq_true] at ht
    unfold quietOps at e
    unfold drawGo
    simp only [ht.1, if_true]
    have hh : holesFor (bs.getD i 0) recs i slots ops.toList = [] := holesFor_nil hr fun o ho => noNeed (List.all_eq_true.1 hall o ho)
    have hl' := fun o ho => hl o (List.mem_cons_of_mem _ ho)
    split at e
    · cases e
    · rename_i hw
      rw [hw]
      exact drawGo_quiet hall l (i + 1) (recs ++ [⟨bs.getD i 0, false, [], [], [], none⟩]) _ s' hl' ht.2 (fun r hrm => by
        rcases List.mem_append.1 hrm with h | h
        · exact hr r h
        · have : r = ⟨bs.getD i 0, false, [], [], [], none⟩ := by simpa using h
          rw [this]) e
    · rename_i hw
      rw [hw]
      split at e
      · rename_i v h' hop
        split at e
        · rename_i hlen
          obtain ⟨r, r1, r2⟩ := drawOp_quiet hfr (slot := slots.getD i 0) (b := bs.getD i 0) (hl o List.mem_cons_self) hop hlen
          rw [hh, r1]
          simp only [List.append_nil]
          exact drawGo_quiet hall l (i + 1) (recs ++ [r]) _ s' hl' ht.2 (fun r' hrm => by
            rcases List.mem_append.1 hrm with h | h
            · exact hr r' h
            · have : r' = r := by simpa using h
              rw [this]; exact r2) e
        · cases e
      · cases e

omit hfr in
theorem pairsOK_quiet {all : List Rec} (ha : ∀ r, r ∈ all → r.touched = []) : ∀ (l : List Rec) (i : Nat), (∀ r, r ∈ l → r.touched = []) → pairsOK all i l = true
  | [], i, h => rfl
  | r :: l, i, h => by
    unfold pairsOK
    rw [Bool.and_eq_true]
    refine ⟨List.all_eq_true.2 fun p hp => ?_, pairsOK_quiet ha l (i + 1) fun r hr => h r (List.mem_cons_of_mem _ hr)⟩
    have h1 := ha p.1 (List.mem_of_getElem? (List.mem_zipIdx_iff_getElem?.1 hp))
    have h2 := h r List.mem_cons_self
    have h3 : apartR r p.1 = true := by
      unfold apartR
      rw [h1, h2]
      have hd : ∀ x, disjoint x [] = true := fun x => by simp [disjoint]
      simp [hd]
    simp [h3]

theorem draw_quiet {N : Nat} {ops : Array Oper} {s s' : St} (hq : quietB ops N = true) (e : quietOps P cf N ops ops.toList s = some s') : absDraw P cf N ops s = some s' := by
  unfold quietB at hq
  simp only [Bool.and_eq_true] at hq
  obtain ⟨⟨⟨⟨q1, q2⟩, q3⟩, q4⟩, q5⟩ := hq
  unfold absDraw
  simp only [q1, q2, q3, Bool.and_self, if_true]
  have hc : ∀ l : List Oper, (∀ o, o ∈ l → needsSlot o = false) → slotCount l = 0 := by
    intro l
    induction l with
    | nil => intro _; rfl
    | cons o l ih => intro h; simp [slotCount, h o List.mem_cons_self, ih fun o ho => h o (List.mem_cons_of_mem _ ho)]
  have h0 : slotCount ops.toList = 0 := hc _ fun o ho => noNeed (List.all_eq_true.1 q4 o ho)
  rw [h0]
  simp only [List.replicate_zero, List.append_nil]
  obtain ⟨recs', r1, r2⟩ := drawGo_quiet hfr (slots := slotsOf ops.toList s.heap.length) (bs := befores ops.toList []) q4 ops.toList 0 [] s s' (fun o ho => List.all_eq_true.1 q4 o ho) q5 (fun r hr => by simp at hr) e
  rw [show ({ s with heap := s.heap } : St) = s from rfl, r1]
  simp only [pairsOK_quiet r2 recs' 0 r2, if_true]
end
def wantG (w : Bool) : V → Option Bool
  | .one (.bool b) => some (b == w)
  | .tup _ => some false
  | _ => none

def dstAt : List Oper → Nat → Option Nat
  | [], _ => none
  | o :: _, 0 => o.dst
  | _ :: l, n + 1 => dstAt l n

def wantD (t : Tmps) (w : Bool) : Option Nat → Option Bool
  | some d => wantG w (tget t d)
  | none => none

theorem dstAt_eq : ∀ (l : List Oper) (g : Nat), dstAt l g = (l[g]?).bind (·.dst)
  | [], g => rfl
  | o :: l, 0 => rfl
  | o :: l, g + 1 => dstAt_eq l g

theorem want_guard {ops : Array Oper} {t : Tmps} {dst : Option Nat} {op : Op} {ty : TypeId} {pos : String} {after : Array Edge} {g : Nat} {w : Bool} :
    wantedA ops t ⟨dst, op, ty, pos, after, some (g, w)⟩ = wantD t w (dstAt ops.toList g) := by
  simp only [wantedA, dstAt_eq, wantD, wantG, Array.getElem?_toList]
  cases (ops[g]?).bind (·.dst) <;> rfl

section
variable (P : Program) (C : Cfg) (cf : CF) (N : Nat) (ops : Array Oper)

def quietK (l : List Oper) (dst : Option Nat) (t : Tmps) (h : Heap) (ws : List Nat) : Res → Option St
  | some (v, h', []) => if h'.length = h.length then quietOps P cf N ops l ⟨setD N t dst v, h, ws⟩ else none
  | _ => none

def quietG (o : Oper) (l : List Oper) (s : St) : Option Bool → Option St
  | none => none
  | some false => quietOps P cf N ops l { s with tmps := setD N s.tmps o.dst (.tup []) }
  | some true => quietK P cf N ops l o.dst s.tmps s.heap s.ws (absOp P cf none s.tmps s.heap o)

noncomputable def opsG (o : Oper) (l : List Oper) (s : St) : Option Bool → Option St
  | none => none
  | some false => absOps P (CIR P C) N ops l { s with tmps := setD N s.tmps o.dst (.tup []) }
  | some true => opK P C N ops l o.dst s.tmps s.ws (absOp P (CIR P C) none s.tmps s.heap o)

theorem quiet_nil (s : St) : quietOps P cf N ops [] s = some s := rfl
theorem quiet_any (o : Oper) (l : List Oper) (s : St) : quietOps P cf N ops (o :: l) s = quietG P cf N ops o l s (wantedA ops s.tmps o) := by
  unfold quietOps
  cases wantedA ops s.tmps o with
  | none => rfl
  | some b =>
    cases b with
    | false => rfl
    | true =>
      simp only [quietG]
      cases absOp P cf none s.tmps s.heap o with
      | none => rfl
      | some r => obtain ⟨v, h', ws⟩ := r; cases ws <;> rfl
theorem quiet_cons (l : List Oper) (dst : Option Nat) (op : Op) (ty : TypeId) (pos : String) (after : Array Edge) (t : Tmps) (h : Heap) (ws : List Nat) :
    quietOps P cf N ops (⟨dst, op, ty, pos, after, none⟩ :: l) ⟨t, h, ws⟩ = quietK P cf N ops l dst t h ws (absOp P cf none t h ⟨dst, op, ty, pos, after, none⟩) := by
  rw [quiet_any]; rfl
theorem quiet_guard (l : List Oper) (dst : Option Nat) (op : Op) (ty : TypeId) (pos : String) (after : Array Edge) (g : Nat) (w : Bool) (t : Tmps) (h : Heap) (ws : List Nat) :
    quietOps P cf N ops (⟨dst, op, ty, pos, after, some (g, w)⟩ :: l) ⟨t, h, ws⟩ = quietG P cf N ops ⟨dst, op, ty, pos, after, some (g, w)⟩ l ⟨t, h, ws⟩ (wantD t w (dstAt ops.toList g)) := by
  rw [quiet_any, want_guard]
theorem ops_guard (l : List Oper) (dst : Option Nat) (op : Op) (ty : TypeId) (pos : String) (after : Array Edge) (g : Nat) (w : Bool) (t : Tmps) (h : Heap) (ws : List Nat) :
    absOps P (CIR P C) N ops (⟨dst, op, ty, pos, after, some (g, w)⟩ :: l) ⟨t, h, ws⟩ = opsG P C N ops ⟨dst, op, ty, pos, after, some (g, w)⟩ l ⟨t, h, ws⟩ (wantD t w (dstAt ops.toList g)) := by
  unfold absOps
  simp only [want_guard]
  cases wantD t w (dstAt ops.toList g) with
  | none => rfl
  | some b =>
    cases b with
    | false => rfl
    | true =>
      simp only [opsG]
      cases absOp P (CIR P C) none t h ⟨dst, op, ty, pos, after, some (g, w)⟩ with
      | none => rfl
      | some r => obtain ⟨v, h', ws'⟩ := r; rfl
theorem quietG_false (o : Oper) (l : List Oper) (s : St) : quietG P cf N ops o l s (some false) = quietOps P cf N ops l { s with tmps := setD N s.tmps o.dst (.tup []) } := rfl
theorem quietG_true (dst : Option Nat) (op : Op) (ty : TypeId) (pos : String) (after : Array Edge) (g : Option (Nat × Bool)) (l : List Oper) (t : Tmps) (h : Heap) (ws : List Nat) :
    quietG P cf N ops ⟨dst, op, ty, pos, after, g⟩ l ⟨t, h, ws⟩ (some true) = quietK P cf N ops l dst t h ws (absOp P cf none t h ⟨dst, op, ty, pos, after, g⟩) := rfl
theorem opsG_false (o : Oper) (l : List Oper) (s : St) : opsG P C N ops o l s (some false) = absOps P (CIR P C) N ops l { s with tmps := setD N s.tmps o.dst (.tup []) } := rfl
theorem opsG_true (dst : Option Nat) (op : Op) (ty : TypeId) (pos : String) (after : Array Edge) (g : Option (Nat × Bool)) (l : List Oper) (t : Tmps) (h : Heap) (ws : List Nat) :
    opsG P C N ops ⟨dst, op, ty, pos, after, g⟩ l ⟨t, h, ws⟩ (some true) = opK P C N ops l dst t ws (absOp P (CIR P C) none t h ⟨dst, op, ty, pos, after, g⟩) := rfl
theorem quietK_some (l : List Oper) (dst : Option Nat) (t : Tmps) (h : Heap) (ws : List Nat) (v : V) : quietK P cf N ops l dst t h ws (some (v, h, [])) = quietOps P cf N ops l ⟨setD N t dst v, h, ws⟩ := by
  simp [quietK]
end


def quietPick (d : Option St) : Bool → Option St → Option St
  | true, some s => some s
  | _, _ => d

theorem drawK_eq (P : Program) (C : Cfg) (N : Nat) (ops : Array Oper) (s : St) : drawK P C N ops s = quietPick (absDraw P (CIR P C) N ops s) (quietB ops N) (quietOps P (CIR P C) N ops ops.toList s) := by
  unfold drawK
  cases hq : quietB ops N with
  | false => rfl
  | true =>
    cases he : quietOps P (CIR P C) N ops ops.toList s with
    | none => rfl
    | some s' => exact draw_quiet CIR_fr hq he
theorem quietPick_some (d : Option St) (s : St) : quietPick d true (some s) = some s := rfl

def quietRegs (N : Nat) (no : List Nat) : Code → Bool
  | .seq a b => quietRegs N no a && quietRegs N no b
  | .cond _ a b => quietRegs N no a && quietRegs N no b
  | .block _ c => quietRegs N no c
  | .loop c => quietRegs N no c
  | .scope c => quietRegs N no c
  | .region id ops true => no.contains id || quietB ops N
  | _ => true

def quietFn (fn : Func) (N : Nat) (no : List Nat) : Bool := match fn.body with
  | some b => quietRegs N no b
  | none => true

def loops : Code → List Code
  | .seq a b => loops a ++ loops b
  | .cond _ a b => loops a ++ loops b
  | .block _ c => loops c
  | .loop c => c :: loops c
  | .scope c => loops c
  | _ => []
def nthC : List Code → Nat → Code
  | [], _ => .skip
  | c :: _, 0 => c
  | _ :: l, n + 1 => nthC l n
def loopAt (fn : Func) (i : Nat) : Code := match fn.body with
  | some b => nthC (loops b) i
  | none => .skip


end Go.Proofs.YtkbdhjfjbkmkcaaGreat.Abs
