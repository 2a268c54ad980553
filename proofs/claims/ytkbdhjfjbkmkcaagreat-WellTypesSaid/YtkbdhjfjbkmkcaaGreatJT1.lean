/- The abstract machine: what it means that an abstract heap tells a world; the heap's lemmas. -/
import Derived.Test.YtkbdhjfjbkmkcaaGreatJT0
import Derived.Laws.CopyRow
namespace Go.Proofs.YtkbdhjfjbkmkcaaGreat.Abs
open Go Go.RowKit

structure Stab where
  c : Nat → Option (Array Value)
  m : Nat → Option (Array MapEntry)
instance : CoeFun Stab (fun _ => Nat → Option (Array Value)) := ⟨Stab.c⟩
structure SLe (S S' : Stab) : Prop where
  c : ∀ b arr, S b = some arr → S' b = some arr
  m : ∀ r ms, S.m r = some ms → S'.m r = some ms
theorem SLe.refl (S : Stab) : SLe S S := ⟨fun _ _ h => h, fun _ _ h => h⟩
theorem SLe.trans {A B C : Stab} (h : SLe A B) (k : SLe B C) : SLe A C := ⟨fun b a x => k.c b a (h.c b a x), fun b a x => k.m b a (h.m b a x)⟩
def ValIs (agg : Bool) (v : Value) (a : Array Value) : Prop := if agg then v = .agg a else a = #[v]

inductive PVR (S : Stab) : Leaf → Value → Prop
  | bool (b : Bool) : PVR S (.bool b) (.bool b)
  | int (k : IntKind) (n : Int) : PVR S (.int k n) (.int k n)
  | str (s : List UInt8) : PVR S (.str s) (.string ⟨⟨s⟩⟩)
  | nilp : PVR S .nilp (.pointer none)
  | nils : PVR S .nils (.slice none 0 0)
  | zsl (a : Addr) : PVR S .zsl (.slice (some a) 0 0)
  | zslnil : PVR S .zsl (.slice none 0 0)
  | islz (b : Option Addr) : PVR S (.isl []) (.slice b 0 0)
  | nilm : PVR S .nilm (.map none)
  | nilf : PVR S .nilf .nilFunc
  | iptr (cs : List Leaf) (off b o : Nat) (arr : Array Value) (hS : S b = some arr) (hl : o + cs.length ≤ arr.size)
      (h : ∀ j, j < cs.length → PVR S (cs.getD j .junk) (arr.getD (o + j) undef)) : PVR S (.iptr cs off) (.pointer (some ⟨b, o + off, none⟩))
  | isl (es : List (List Leaf)) (a : Addr) (arr : Array Value) (esz cap : Nat) (ha : a.spot = none)
      (hS : es = [] ∨ (S a.block = some arr ∧ a.off + es.length * esz ≤ arr.size))
      (hz : ∀ i, i < es.length → (es.getD i []).length = esz)
      (h : ∀ i j, i < es.length → j < esz → PVR S ((es.getD i []).getD j .junk) (arr.getD (a.off + i * esz + j) undef))
      (hc : es.length ≤ cap) : PVR S (.isl es) (.slice (some a) es.length cap)
  | fn (f : FuncId) (caps : List Leaf) (vs : Array Value) (hn : vs.size = caps.length)
      (h : ∀ i, i < caps.length → PVR S (caps.getD i .junk) (vs.getD i undef)) : PVR S (.fn f caps) (.func (.func f) #[] vs)
  | imap (ks : List Leaf) (agg : Bool) (rows : List (List Leaf)) (r : Nat) (ms : Array MapEntry) (arrs : Nat → Array Value) (hS : S.m r = some ms) (hn : ms.size = ks.length) (hr : rows.length = ks.length)
      (ht : ∀ i, i < ks.length → ValIs agg (ms.getD i default).val (arrs i) ∧ (arrs i).size = (rows.getD i []).length)
      (hk : ∀ i, i < ks.length → PVR S (ks.getD i .junk) (ms.getD i default).key)
      (hc : ∀ i j, i < ks.length → j < (rows.getD i []).length → PVR S ((rows.getD i []).getD j .junk) ((arrs i).getD j undef)) : PVR S (.imap ks agg rows) (.map (some r))

structure HB where
  blk : Nat
  esz : Nat
  cap : Nat

structure Mem where
  stab : Stab
  hist : Nat → Nat → Option HB
  mp : Nat → Option Nat
  lim : Nat

inductive VR (M : Mem) : Leaf → Value → Prop
  | pure {l : Leaf} {v : Value} (h : PVR M.stab l v) : VR M l v
  | junk (v : Value) (h : v.oneCell' = true) : VR M .junk v
  | ptr (id sz i off : Nat) (hb : HB) (h : M.hist id sz = some hb) : VR M (.ptr id sz i off) (.pointer (some ⟨hb.blk, i * hb.esz + off, none⟩))
  | sl (id sz off len cap : Nat) (a : Addr) (hb : HB) (h : M.hist id sz = some hb) (hblk : a.block = hb.blk) (hsp : a.spot = none)
      (ho : cap = 0 ∨ a.off = off * hb.esz) (h1 : off + len ≤ sz) (h2 : sz ≤ off + cap) (h3 : off + cap ≤ hb.cap) (h4 : len ≤ cap) : VR M (.sl id hb.esz sz off len) (.slice (some a) len cap)
  | slnil (id esz : Nat) (h : id < M.lim) : VR M (.sl id esz 0 0 0) (.slice none 0 0)
  | map (id r : Nat) (h : M.mp id = some r) : VR M (.map id) (.map (some r))
  | fn (f : FuncId) (caps : List Leaf) (vs : Array Value) (hn : vs.size = caps.length)
      (h : ∀ i, i < caps.length → VR M (caps.getD i .junk) (vs.getD i undef)) : VR M (.fn f caps) (.func (.func f) #[] vs)

structure Ext (M M' : Mem) : Prop where
  stab : SLe M.stab M'.stab
  hist : ∀ id sz hb, M.hist id sz = some hb → M'.hist id sz = some hb
  mp : ∀ id r, M.mp id = some r → M'.mp id = some r
  lim : M.lim ≤ M'.lim

theorem Ext.refl (M : Mem) : Ext M M := ⟨SLe.refl _, fun _ _ _ h => h, fun _ _ h => h, Nat.le_refl _⟩
theorem Ext.trans {A B C : Mem} (h : Ext A B) (k : Ext B C) : Ext A C :=
  ⟨h.stab.trans k.stab, fun i s b x => k.hist i s b (h.hist i s b x), fun i r x => k.mp i r (h.mp i r x), Nat.le_trans h.lim k.lim⟩

theorem PVR.mono {S S' : Stab} (hS : SLe S S') {l : Leaf} {v : Value} (h : PVR S l v) : PVR S' l v := by
  induction h with
  | bool b => exact .bool b
  | int k n => exact .int k n
  | str s => exact .str s
  | nilp => exact .nilp
  | nils => exact .nils
  | zsl a => exact .zsl a
  | zslnil => exact .zslnil
  | islz b => exact .islz b
  | nilm => exact .nilm
  | nilf => exact .nilf
  | iptr cs off b o arr h1 hl _ ih => exact .iptr cs off b o arr (hS.c _ _ h1) hl ih
  | isl es a arr esz cap ha h1 hz _ hc ih => exact .isl es a arr esz cap ha (h1.imp id fun h => ⟨hS.c _ _ h.1, h.2⟩) hz ih hc
  | fn f caps vs hn _ ih => exact .fn f caps vs hn ih
  | imap ks g rows r ms arrs h1 hn hr ht _ _ ih1 ih2 => exact .imap ks g rows r ms arrs (hS.m _ _ h1) hn hr ht ih1 ih2

theorem VR.mono {M M' : Mem} (hE : Ext M M') {l : Leaf} {v : Value} (h : VR M l v) : VR M' l v := by
  induction h with
  | pure h => exact .pure (h.mono hE.stab)
  | junk v h => exact .junk v h
  | ptr id sz i off hb h => exact .ptr id sz i off hb (hE.hist _ _ _ h)
  | sl id sz off len cap a hb h hblk hsp ho h1 h2 h3 h4 => exact .sl id sz off len cap a hb (hE.hist _ _ _ h) hblk hsp ho h1 h2 h3 h4
  | slnil id esz h => exact .slnil id esz (Nat.lt_of_lt_of_le h hE.lim)
  | map id r h => exact .map id r (hE.mp _ _ h)
  | fn f caps vs hn _ ih => exact .fn f caps vs hn ih

theorem PVR.one {S : Stab} {l : Leaf} {v : Value} (h : PVR S l v) : v.oneCell' = true := by cases h <;> rfl
theorem VR.one {M : Mem} {l : Leaf} {v : Value} (h : VR M l v) : v.oneCell' = true := by
  cases h with
  | pure h => exact h.one
  | junk _ h => exact h
  | _ => rfl

def CsR (M : Mem) (cs : List Leaf) (arr : List Value) : Prop := arr.length = cs.length ∧ ∀ j, j < cs.length → VR M (cs.getD j .junk) (arr.getD j undef)

inductive VV (M : Mem) : V → Value → Prop
  | junk (v : Value) : VV M .junk v
  | one {l : Leaf} {v : Value} (h : VR M l v) : VV M (.one l) v
  | agg {cs : List Leaf} {arr : Array Value} (h : CsR M cs arr.toList) : VV M (.agg cs) (.agg arr)
  | tup {vs : List V} {arr : Array Value} (hn : arr.size = vs.length) (h : ∀ i, i < vs.length → VV M (vs.getD i .junk) (arr.getD i undef)) : VV M (.tup vs) (.tuple arr)

theorem CsR.mono {M M' : Mem} (hE : Ext M M') {cs : List Leaf} {arr : List Value} (h : CsR M cs arr) : CsR M' cs arr := ⟨h.1, fun j hj => (h.2 j hj).mono hE⟩
theorem VV.mono {M M' : Mem} (hE : Ext M M') {x : V} {v : Value} (h : VV M x v) : VV M' x v := by
  induction h with
  | junk v => exact .junk v
  | one h => exact .one (h.mono hE)
  | agg h => exact .agg (h.mono hE)
  | tup hn _ ih => exact .tup hn ih

def TR (M : Mem) (t : Tmps) (a : Array Value) : Prop := ∀ i, VV M (tget t i) (a.getD i undef)

theorem TR.mono {M M' : Mem} (hE : Ext M M') {t : Tmps} {a : Array Value} (h : TR M t a) : TR M' t a := fun i => (h i).mono hE

def VL (M : Mem) (t : List V) (a : Array Value) : Prop := a.size = t.length ∧ ∀ i, i < t.length → VV M (t.getD i .junk) (a.getD i undef)

theorem VL.mono {M M' : Mem} (hE : Ext M M') {t : List V} {a : Array Value} (h : VL M t a) : VL M' t a := ⟨h.1, fun j hj => (h.2 j hj).mono hE⟩

structure Inv (B : Nat) (M : Mem) (H : Heap) (w : World) : Prop where
  base : B ≤ w.heap.size
  stab : ∀ b arr, M.stab b = some arr → ∃ e fr, w.heap[b]? = some (.cells arr e fr)
  histH : ∀ id sz hb, M.hist id sz = some hb → ∃ esz elems, H[id]? = some (some (.row esz elems)) ∧ sz ≤ elems.length ∧ hb.esz = esz
  mpH : ∀ id r, M.mp id = some r → ∃ ck es, H[id]? = some (some (.mp ck es))
  row : ∀ id esz elems, H[id]? = some (some (.row esz elems)) → (elems = [] ∧ ∀ sz, M.hist id sz = none) ∨ ∃ c cap arr e, M.hist id elems.length = some ⟨c, esz, cap⟩ ∧ B ≤ c ∧
      w.heap[c]? = some (.cells arr e (0, 0)) ∧ M.stab c = none ∧ arr.size = cap * esz ∧ elems.length ≤ cap ∧ (∀ i, i < elems.length → (elems.getD i []).length = esz) ∧
      ∀ i j, i < elems.length → j < esz → VR M ((elems.getD i []).getD j .junk) (arr.getD (i * esz + j) undef)
  mpr : ∀ id ck es, H[id]? = some (some (.mp ck es)) → ∃ r ms, M.mp id = some r ∧ B ≤ r ∧ w.heap[r]? = some (.map ms ck) ∧ ms.size = es.length ∧
      ∀ i, i < es.length → VR M (es.getD i default).1 (ms.getD i default).key ∧ VV M (es.getD i default).2.1 (ms.getD i default).val ∧ (ms.getD i default).born = (es.getD i default).2.2
  inj : ∀ id id' esz esz' elems elems' hb hb', H[id]? = some (some (.row esz elems)) → H[id']? = some (some (.row esz' elems')) →
      M.hist id elems.length = some hb → M.hist id' elems'.length = some hb' → hb.blk = hb'.blk → id = id'
  injm : ∀ id id' r, M.mp id = some r → M.mp id' = some r → id = id'
  lim : M.lim ≤ H.length
  mstab : ∀ r ms, M.stab.m r = some ms → ∃ ck, w.heap[r]? = some (.map ms ck)
  mpS : ∀ id r, M.mp id = some r → M.stab.m r = none

theorem Inv.rowOf {B : Nat} {M : Mem} {H : Heap} {w : World} (h : Inv B M H w) {id esz sz : Nat} {elems : List (List Leaf)} {hb : HB} (hid : H[id]? = some (some (.row esz elems))) (hh : M.hist id sz = some hb) :
    ∃ c cap arr e, M.hist id elems.length = some ⟨c, esz, cap⟩ ∧ B ≤ c ∧ w.heap[c]? = some (.cells arr e (0, 0)) ∧ M.stab c = none ∧ arr.size = cap * esz ∧ elems.length ≤ cap ∧
      (∀ i, i < elems.length → (elems.getD i []).length = esz) ∧ ∀ i j, i < elems.length → j < esz → VR M ((elems.getD i []).getD j .junk) (arr.getD (i * esz + j) undef) := by
  rcases h.row id esz elems hid with ⟨_, h1⟩ | h1
  · rw [h1] at hh; cases hh
  · exact h1

theorem Inv.congr {B : Nat} {M : Mem} {H : Heap} {w w' : World} (h : Inv B M H w) (hw : w'.heap = w.heap) : Inv B M H w' := by
  obtain ⟨h1, h2, h3, h4, h5, h6, h7, h8, h9, h10, h11⟩ := h
  refine ⟨by rw [hw]; exact h1, by rw [hw]; exact h2, h3, h4, ?_, ?_, h7, h8, h9, by rw [hw]; exact h10, h11⟩
  · rw [hw]; exact h5
  · rw [hw]; exact h6

theorem Inv.drew {B : Nat} {M : Mem} {H : Heap} {w : World} (h : Inv B M H w) : Inv B M H w.drew := h.congr rfl

def Mem.add (M : Mem) (id sz : Nat) (hb : HB) : Mem := { M with hist := fun i s => if i = id ∧ s = sz then some hb else M.hist i s }

theorem Mem.add_ext {M : Mem} {id sz : Nat} {hb : HB} (h : M.hist id sz = none ∨ M.hist id sz = some hb) : Ext M (M.add id sz hb) := by
  refine ⟨SLe.refl _, fun i s b hs => ?_, fun _ _ h => h, Nat.le_refl _⟩
  simp only [Mem.add]
  split
  · rename_i e; obtain ⟨rfl, rfl⟩ := e
    rcases h with h | h
    · rw [h] at hs; cases hs
    · rw [← hs, h]
  · exact hs

theorem Mem.add_same (M : Mem) (id sz : Nat) (hb : HB) : (M.add id sz hb).hist id sz = some hb := by simp [Mem.add]
theorem Mem.add_other {M : Mem} {id sz : Nat} {hb : HB} {i s : Nat} (h : ¬ (i = id ∧ s = sz)) : (M.add id sz hb).hist i s = M.hist i s := by simp only [Mem.add]; rw [if_neg h]

theorem put_len {slot : Option Nat} {h h' : Heap} {o : AO} {id : Nat} (e : put slot h o = some (id, h')) : h.length ≤ h'.length := by
  unfold put at e
  cases slot with
  | none => cases e; simp
  | some i =>
    simp only at e
    split at e
    · cases e; simp
    · cases e

theorem put_some {slot : Option Nat} {h h' : Heap} {o : AO} {id : Nat} (e : put slot h o = some (id, h')) :
    (∀ a, h[id]? ≠ some (some a)) ∧ h'[id]? = some (some o) ∧ ∀ k, k ≠ id → ∀ a, (h'[k]? = some (some a) ↔ h[k]? = some (some a)) := by
  unfold put at e
  cases slot with
  | none =>
    simp only [Option.some.injEq, Prod.mk.injEq] at e
    obtain ⟨rfl, rfl⟩ := e
    refine ⟨by simp, by simp, fun k hk a => ?_⟩
    rcases Nat.lt_or_ge k h.length with hl | hl
    · rw [List.getElem?_append_left hl]
    · rw [List.getElem?_append_right hl]
      have : k - h.length ≠ 0 := by omega
      simp [List.getElem?_eq_none hl, List.getElem?_eq_none (show [some o].length ≤ k - h.length by simp; omega)]
  | some i =>
    simp only at e
    split at e
    · rename_i hn
      simp only [Option.some.injEq, Prod.mk.injEq] at e
      obtain ⟨rfl, rfl⟩ := e
      have hl : i < h.length := (List.getElem?_eq_some_iff.1 hn).1
      refine ⟨by simp [hn], by simp [hl], fun k hk a => ?_⟩
      rw [List.getElem?_set_ne (Ne.symm hk)]
    · cases e

theorem heap_alloc_get (w : World) (o : Obj) (k : Nat) : (w.alloc o).heap[k]? = if k = w.heap.size then some o else w.heap[k]? := by
  show (w.heap.push o)[k]? = _
  rw [Array.getElem?_push]

theorem Inv.alloc {B : Nat} {M : Mem} {H H' : Heap} {w : World} (h : Inv B M H w) {slot : Option Nat} {id esz cap : Nat} {elems : List (List Leaf)} {arr : Array Value} {e : TypeId}
    (hp : put slot H (.row esz elems) = some (id, H')) (hs : arr.size = cap * esz) (hc : elems.length ≤ cap) (hz : ∀ i, i < elems.length → (elems.getD i []).length = esz)
    (hv : ∀ i j, i < elems.length → j < esz → VR M ((elems.getD i []).getD j .junk) (arr.getD (i * esz + j) undef)) :
    Ext M (M.add id elems.length ⟨w.heap.size, esz, cap⟩) ∧ Inv B (M.add id elems.length ⟨w.heap.size, esz, cap⟩) H' (w.alloc (.cells arr e)) := by
  obtain ⟨hn, hi, ho⟩ := put_some hp
  have hno : ∀ sz, M.hist id sz = none := by
    intro sz
    cases hh : M.hist id sz with
    | none => rfl
    | some hb => obtain ⟨_, _, h1, _⟩ := h.histH _ _ _ hh; exact (hn _ h1).elim
  have hE : Ext M (M.add id elems.length ⟨w.heap.size, esz, cap⟩) := Mem.add_ext (.inl (hno _))
  refine ⟨hE, ?_⟩
  have hnm : M.mp id = none := by
    cases hh : M.mp id with
    | none => rfl
    | some hb => obtain ⟨_, _, h1⟩ := h.mpH _ _ hh; exact (hn _ h1).elim
  have old : ∀ (b : Nat) (x : Obj), w.heap[b]? = some x → (w.alloc (.cells arr e)).heap[b]? = some x := by
    intro b x hb
    rw [heap_alloc_get, if_neg]; · exact hb
    have := (Array.getElem?_eq_some_iff.1 hb).1; omega
  refine ⟨?_, ?_, ?_, ?_, ?_, ?_, ?_, ?_, Nat.le_trans h.lim (put_len hp), fun r ms hr => (h.mstab r ms hr).imp fun ck g => old _ _ g, h.mpS⟩
  · have := h.base; simp; omega
  · intro b a hb
    obtain ⟨e', fr, h1⟩ := h.stab b a hb
    exact ⟨e', fr, old _ _ h1⟩
  · intro i s hb hh
    by_cases hk : i = id
    · subst hk
      by_cases hs' : s = elems.length
      · subst hs'
        rw [Mem.add_same] at hh; cases hh
        exact ⟨_, _, hi, Nat.le_refl _, rfl⟩
      · rw [Mem.add_other (by simp [hs']), hno] at hh; cases hh
    · rw [Mem.add_other (by simp [hk])] at hh
      obtain ⟨a, b, h1, h2⟩ := h.histH _ _ _ hh
      exact ⟨a, b, (ho i hk _).2 h1, h2⟩
  · intro i r hh
    have hh' : M.mp i = some r := hh
    obtain ⟨ck0, es, h1⟩ := h.mpH _ _ hh'
    by_cases hk : i = id
    · subst hk; exact (hn _ h1).elim
    · exact ⟨ck0, es, (ho i hk _).2 h1⟩
  · intro i esz' elems' hh
    by_cases hk : i = id
    · subst hk
      rw [hi] at hh; cases hh
      refine .inr ⟨w.heap.size, cap, arr, e, Mem.add_same _ _ _ _, h.base, by rw [heap_alloc_get, if_pos rfl], ?_, hs, hc, hz, fun a b x y => (hv a b x y).mono hE⟩
      cases hst : M.stab w.heap.size with
      | none => exact hst
      | some a => obtain ⟨_, _, h1⟩ := h.stab _ _ hst; have := (Array.getElem?_eq_some_iff.1 h1).1; omega
    · rcases h.row i esz' elems' ((ho i hk _).1 hh) with ⟨h1, h2⟩ | ⟨c, cp, ar, e', h1, h2, h3, h4, h5, h6, h7, h8⟩
      · exact .inl ⟨h1, fun sz => by rw [Mem.add_other (by simp [hk])]; exact h2 sz⟩
      · exact .inr ⟨c, cp, ar, e', hE.hist _ _ _ h1, h2, old _ _ h3, h4, h5, h6, h7, fun a b x y => (h8 a b x y).mono hE⟩
  · intro i ck es hh
    by_cases hk : i = id
    · subst hk; rw [hi] at hh; cases hh
    · obtain ⟨r, ms, h1, h2, h3, h4, h5⟩ := h.mpr i ck es ((ho i hk _).1 hh)
      exact ⟨r, ms, h1, h2, old _ _ h3, h4, fun a x => ⟨(h5 a x).1.mono hE, (h5 a x).2.1.mono hE, (h5 a x).2.2⟩⟩
  · intro i i' z z' el el' hb hb' g g' k k' hblk
    have cur : ∀ i z el hb, H'[i]? = some (some (.row z el)) → (M.add id elems.length ⟨w.heap.size, esz, cap⟩).hist i el.length = some hb → i ≠ id → hb.blk < w.heap.size ∧ M.hist i el.length = some hb := by
      intro i z el hb g k hk
      rw [Mem.add_other (by simp [hk])] at k
      obtain ⟨c, cp, ar, e', h1, _, h3, _⟩ := h.rowOf ((ho i hk _).1 g) k
      rw [k] at h1; cases h1
      exact ⟨(Array.getElem?_eq_some_iff.1 h3).1, k⟩
    by_cases hk : i = id
    · by_cases hk' : i' = id
      · rw [hk, hk']
      · subst hk
        rw [hi] at g; cases g
        rw [Mem.add_same] at k; cases k
        have := (cur i' z' el' hb' g' k' hk').1
        simp at hblk; omega
    · by_cases hk' : i' = id
      · subst hk'
        rw [hi] at g'; cases g'
        rw [Mem.add_same] at k'; cases k'
        have := (cur i z el hb g k hk).1
        simp at hblk; omega
      · exact h.inj i i' z z' el el' hb hb' ((ho i hk _).1 g) ((ho i' hk' _).1 g') (cur _ _ _ _ g k hk).2 (cur _ _ _ _ g' k' hk').2 hblk
  · exact h.injm

theorem setRow_get (w : World) (c k : Nat) (arr arr' : Array Value) (e : TypeId) (fr : Nat × Nat) (h : w.heap[c]? = some (.cells arr e fr)) :
    (w.setRow c arr').heap[k]? = if k = c then some (.cells arr' e fr) else w.heap[k]? := by
  by_cases hk : k = c
  · subst hk; rw [if_pos rfl]; exact setRow_heap w k arr arr' e fr h
  · rw [if_neg hk]; exact setRow_other w c k arr' hk

theorem Inv.setRow {B : Nat} {M : Mem} {H : Heap} {w : World} (h : Inv B M H w) {id esz c cap : Nat} {elems elems' : List (List Leaf)} {arr arr' : Array Value} {e : TypeId}
    (hid : H[id]? = some (some (.row esz elems))) (hh : M.hist id elems.length = some ⟨c, esz, cap⟩) (hw : w.heap[c]? = some (.cells arr e (0, 0)))
    (hs : arr'.size = arr.size) (hle : elems.length ≤ elems'.length) (hc : elems'.length ≤ cap) (hz : ∀ i, i < elems'.length → (elems'.getD i []).length = esz)
    (hv : ∀ i j, i < elems'.length → j < esz → VR M ((elems'.getD i []).getD j .junk) (arr'.getD (i * esz + j) undef)) :
    Ext M (M.add id elems'.length ⟨c, esz, cap⟩) ∧ Inv B (M.add id elems'.length ⟨c, esz, cap⟩) (H.set id (some (.row esz elems'))) (w.setRow c arr') := by
  have hlt : id < H.length := (List.getElem?_eq_some_iff.1 hid).1
  have hE : Ext M (M.add id elems'.length ⟨c, esz, cap⟩) := by
    refine Mem.add_ext ?_
    rcases Nat.lt_or_ge elems.length elems'.length with hl | hl
    · left
      cases hh' : M.hist id elems'.length with
      | none => rfl
      | some hb => obtain ⟨_, _, h1, h2, _⟩ := h.histH _ _ _ hh'; rw [hid] at h1; cases h1; omega
    · right; rw [show elems'.length = elems.length by omega]; exact hh
  refine ⟨hE, ?_⟩
  obtain ⟨c0, cap0, arr0, e0, g1, g2, g3, g4, g5, g6, g7, g8⟩ := h.rowOf hid hh
  rw [hh] at g1; cases g1
  rw [hw] at g3; cases g3
  have get : ∀ k, (w.setRow c arr').heap[k]? = if k = c then some (.cells arr' e (0, 0)) else w.heap[k]? := fun k => setRow_get w c k arr arr' e (0, 0) hw
  have setI : ∀ k a, k ≠ id → ((H.set id (some (.row esz elems')))[k]? = some (some a) ↔ H[k]? = some (some a)) := by
    intro k a hk; rw [List.getElem?_set_ne (Ne.symm hk)]
  have setS : (H.set id (some (.row esz elems')))[id]? = some (some (.row esz elems')) := by simp [hlt]
  refine ⟨?_, ?_, ?_, ?_, ?_, ?_, ?_, h.injm, by rw [List.length_set]; exact h.lim, fun r ms hr => (h.mstab r ms hr).imp fun ck g => by
    rw [get, if_neg (fun e => by subst e; rw [hw] at g; cases g)]; exact g, h.mpS⟩
  · have := h.base
    have hsz : (w.setRow c arr').heap.size = w.heap.size := by simp [World.setRow]
    omega
  · intro b a hb
    obtain ⟨e', fr, h1⟩ := h.stab b a hb
    have : b ≠ c := by intro hbc; subst hbc; have hb' : M.stab b = some a := hb; rw [g4] at hb'; cases hb'
    exact ⟨e', fr, by rw [get, if_neg this]; exact h1⟩
  · intro i s hb hx
    by_cases hk : i = id
    · subst hk
      by_cases hs' : s = elems'.length
      · subst hs'
        rw [Mem.add_same] at hx; cases hx
        exact ⟨_, _, setS, Nat.le_refl _, rfl⟩
      · rw [Mem.add_other (by simp [hs'])] at hx
        obtain ⟨a, b, h1, h2, h3⟩ := h.histH _ _ _ hx
        rw [hid] at h1; cases h1
        exact ⟨_, _, setS, by omega, h3⟩
    · rw [Mem.add_other (by simp [hk])] at hx
      obtain ⟨a, b, h1, h2⟩ := h.histH _ _ _ hx
      exact ⟨a, b, (setI i _ hk).2 h1, h2⟩
  · intro i r hx
    obtain ⟨ck0, es, h1⟩ := h.mpH i r hx
    by_cases hk : i = id
    · subst hk; rw [hid] at h1; cases h1
    · exact ⟨ck0, es, (setI i _ hk).2 h1⟩
  · intro i esz' el hx
    by_cases hk : i = id
    · subst hk
      rw [setS] at hx; cases hx
      exact .inr ⟨c, cap, arr', e, Mem.add_same _ _ _ _, g2, by rw [get, if_pos rfl], g4, by rw [hs, g5], hc, hz, fun a b x y => (hv a b x y).mono hE⟩
    · rcases h.row i esz' el ((setI i _ hk).1 hx) with ⟨h1, h2⟩ | ⟨c1, cp, ar, e', h1, h2, h3, h4, h5, h6, h7, h8⟩
      · exact .inl ⟨h1, fun sz => by rw [Mem.add_other (by simp [hk])]; exact h2 sz⟩
      have hne : c1 ≠ c := by
        intro e1; subst e1
        exact hk (h.inj i id esz' esz el elems _ _ ((setI i _ hk).1 hx) hid h1 hh rfl)
      exact .inr ⟨c1, cp, ar, e', hE.hist _ _ _ h1, h2, by rw [get, if_neg hne]; exact h3, h4, h5, h6, h7, fun a b x y => (h8 a b x y).mono hE⟩
  · intro i ck es hx
    by_cases hk : i = id
    · subst hk; rw [setS] at hx; cases hx
    · obtain ⟨r, ms, h1, h2, h3, h4, h5⟩ := h.mpr i ck es ((setI i _ hk).1 hx)
      have hne : r ≠ c := by intro e1; subst e1; rw [hw] at h3; cases h3
      exact ⟨r, ms, h1, h2, by rw [get, if_neg hne]; exact h3, h4, fun a x => ⟨(h5 a x).1.mono hE, (h5 a x).2.1.mono hE, (h5 a x).2.2⟩⟩
  · intro i i' z z' el el' hb hb' g g' k k' hblk
    have cur : ∀ i z el hb, (H.set id (some (.row esz elems')))[i]? = some (some (.row z el)) → (M.add id elems'.length ⟨c, esz, cap⟩).hist i el.length = some hb →
        ∃ z0 el0 hb0, H[i]? = some (some (.row z0 el0)) ∧ M.hist i el0.length = some hb0 ∧ hb0.blk = hb.blk := by
      intro i z el hb g k
      by_cases hk : i = id
      · subst hk
        rw [setS] at g; cases g
        rw [Mem.add_same] at k; cases k
        exact ⟨_, _, _, hid, hh, rfl⟩
      · rw [Mem.add_other (by simp [hk])] at k
        exact ⟨_, _, _, (setI i _ hk).1 g, k, rfl⟩
    obtain ⟨z0, el0, hb0, a1, a2, a3⟩ := cur i z el hb g k
    obtain ⟨z1, el1, hb1, b1, b2, b3⟩ := cur i' z' el' hb' g' k'
    exact h.inj i i' _ _ _ _ _ _ a1 b1 a2 b2 (by rw [a3, b3, hblk])

theorem Inv.moved {B : Nat} {M : Mem} {H : Heap} {w : World} (h : Inv B M H w) {id esz cap : Nat} {elems elems' : List (List Leaf)} {arr' : Array Value} {e : TypeId}
    (hid : H[id]? = some (some (.row esz elems))) (hlt' : elems.length < elems'.length)
    (hs : arr'.size = cap * esz) (hc : elems'.length ≤ cap) (hz : ∀ i, i < elems'.length → (elems'.getD i []).length = esz)
    (hv : ∀ i j, i < elems'.length → j < esz → VR M ((elems'.getD i []).getD j .junk) (arr'.getD (i * esz + j) undef)) :
    Ext M (M.add id elems'.length ⟨w.heap.size, esz, cap⟩) ∧ Inv B (M.add id elems'.length ⟨w.heap.size, esz, cap⟩) (H.set id (some (.row esz elems'))) (w.alloc (.cells arr' e)) := by
  have hlt : id < H.length := (List.getElem?_eq_some_iff.1 hid).1
  have hE : Ext M (M.add id elems'.length ⟨w.heap.size, esz, cap⟩) := by
    refine Mem.add_ext (.inl ?_)
    cases hh' : M.hist id elems'.length with
    | none => rfl
    | some hb => obtain ⟨_, _, h1, h2, _⟩ := h.histH _ _ _ hh'; rw [hid] at h1; cases h1; omega
  refine ⟨hE, ?_⟩
  have old : ∀ (b : Nat) (x : Obj), w.heap[b]? = some x → (w.alloc (.cells arr' e)).heap[b]? = some x := by
    intro b x hb
    rw [heap_alloc_get, if_neg]; · exact hb
    have := (Array.getElem?_eq_some_iff.1 hb).1; omega
  have setI : ∀ k a, k ≠ id → ((H.set id (some (.row esz elems')))[k]? = some (some a) ↔ H[k]? = some (some a)) := by
    intro k a hk; rw [List.getElem?_set_ne (Ne.symm hk)]
  have setS : (H.set id (some (.row esz elems')))[id]? = some (some (.row esz elems')) := by simp [hlt]
  refine ⟨?_, ?_, ?_, ?_, ?_, ?_, ?_, h.injm, by rw [List.length_set]; exact h.lim, fun r ms hr => (h.mstab r ms hr).imp fun ck g => old _ _ g, h.mpS⟩
  · have := h.base; simp; omega
  · intro b a hb
    obtain ⟨e', fr, h1⟩ := h.stab b a hb
    exact ⟨e', fr, old _ _ h1⟩
  · intro i s hb hx
    by_cases hk : i = id
    · subst hk
      by_cases hs' : s = elems'.length
      · subst hs'
        rw [Mem.add_same] at hx; cases hx
        exact ⟨_, _, setS, Nat.le_refl _, rfl⟩
      · rw [Mem.add_other (by simp [hs'])] at hx
        obtain ⟨a, b, h1, h2, h3⟩ := h.histH _ _ _ hx
        rw [hid] at h1; cases h1
        exact ⟨_, _, setS, by omega, h3⟩
    · rw [Mem.add_other (by simp [hk])] at hx
      obtain ⟨a, b, h1, h2⟩ := h.histH _ _ _ hx
      exact ⟨a, b, (setI i _ hk).2 h1, h2⟩
  · intro i r hx
    obtain ⟨ck0, es, h1⟩ := h.mpH i r hx
    by_cases hk : i = id
    · subst hk; rw [hid] at h1; cases h1
    · exact ⟨ck0, es, (setI i _ hk).2 h1⟩
  · intro i esz' el hx
    by_cases hk : i = id
    · subst hk
      rw [setS] at hx; cases hx
      refine .inr ⟨w.heap.size, cap, arr', e, Mem.add_same _ _ _ _, h.base, by rw [heap_alloc_get, if_pos rfl], ?_, hs, hc, hz, fun a b x y => (hv a b x y).mono hE⟩
      cases hst : M.stab w.heap.size with
      | none => exact hst
      | some a => obtain ⟨_, _, h1⟩ := h.stab _ _ hst; have := (Array.getElem?_eq_some_iff.1 h1).1; omega
    · rcases h.row i esz' el ((setI i _ hk).1 hx) with ⟨h1, h2⟩ | ⟨c1, cp, ar, e', h1, h2, h3, h4, h5, h6, h7, h8⟩
      · exact .inl ⟨h1, fun sz => by rw [Mem.add_other (by simp [hk])]; exact h2 sz⟩
      · exact .inr ⟨c1, cp, ar, e', hE.hist _ _ _ h1, h2, old _ _ h3, h4, h5, h6, h7, fun a b x y => (h8 a b x y).mono hE⟩
  · intro i ck es hx
    by_cases hk : i = id
    · subst hk; rw [setS] at hx; cases hx
    · obtain ⟨r, ms, h1, h2, h3, h4, h5⟩ := h.mpr i ck es ((setI i _ hk).1 hx)
      exact ⟨r, ms, h1, h2, old _ _ h3, h4, fun a x => ⟨(h5 a x).1.mono hE, (h5 a x).2.1.mono hE, (h5 a x).2.2⟩⟩
  · intro i i' z z' el el' hb hb' g g' k k' hblk
    have cur : ∀ i z el hb, (H.set id (some (.row esz elems')))[i]? = some (some (.row z el)) → (M.add id elems'.length ⟨w.heap.size, esz, cap⟩).hist i el.length = some hb → i ≠ id →
        hb.blk < w.heap.size ∧ H[i]? = some (some (.row z el)) ∧ M.hist i el.length = some hb := by
      intro i z el hb g k hk
      rw [Mem.add_other (by simp [hk])] at k
      obtain ⟨c1, cp, ar, e', h1, h2, h3, _⟩ := h.rowOf ((setI i _ hk).1 g) k
      rw [k] at h1; cases h1
      exact ⟨(Array.getElem?_eq_some_iff.1 h3).1, (setI i _ hk).1 g, k⟩
    by_cases hk : i = id
    · by_cases hk' : i' = id
      · rw [hk, hk']
      · subst hk
        rw [setS] at g; cases g
        rw [Mem.add_same] at k; cases k
        have := (cur i' z' el' hb' g' k' hk').1
        simp at hblk; omega
    · by_cases hk' : i' = id
      · subst hk'
        rw [setS] at g'; cases g'
        rw [Mem.add_same] at k'; cases k'
        have := (cur i z el hb g k hk).1
        simp at hblk; omega
      · obtain ⟨_, a1, a2⟩ := cur i z el hb g k hk
        obtain ⟨_, b1, b2⟩ := cur i' z' el' hb' g' k' hk'
        exact h.inj i i' _ _ _ _ _ _ a1 b1 a2 b2 hblk

/-! A new block that never changes. -/
def Mem.addS (M : Mem) (b : Nat) (arr : Array Value) : Mem := { M with stab := ⟨fun i => if i = b then some arr else M.stab i, M.stab.m⟩ }
theorem Inv.allocS {B : Nat} {M : Mem} {H : Heap} {w : World} (h : Inv B M H w) (arr : Array Value) (e : TypeId) (fr : Nat × Nat) :
    Ext M (M.addS w.heap.size arr) ∧ Inv B (M.addS w.heap.size arr) H (w.alloc (.cells arr e fr)) := by
  have lt : ∀ b a, M.stab b = some a → b < w.heap.size := fun b a hb => by
    obtain ⟨e', fr', h1⟩ := h.stab b a hb
    exact (Array.getElem?_eq_some_iff.1 h1).1
  have hE : Ext M (M.addS w.heap.size arr) := by
    refine ⟨⟨fun b a hb => ?_, fun _ _ h => h⟩, fun _ _ _ h => h, fun _ _ h => h, Nat.le_refl _⟩
    have := lt b a hb
    simp only [Mem.addS]
    rw [if_neg (by omega)]; exact hb
  refine ⟨hE, ?_⟩
  have old : ∀ (b : Nat) (x : Obj), w.heap[b]? = some x → (w.alloc (.cells arr e fr)).heap[b]? = some x := by
    intro b x hb
    rw [heap_alloc_get, if_neg]; · exact hb
    have := (Array.getElem?_eq_some_iff.1 hb).1; omega
  refine ⟨?_, ?_, h.histH, h.mpH, ?_, ?_, h.inj, h.injm, h.lim, fun r ms hr => (h.mstab r ms hr).imp fun ck g => old _ _ g, h.mpS⟩
  · have := h.base; simp; omega
  · intro b a hb
    simp only [Mem.addS] at hb
    split at hb
    · rename_i hbs
      cases hb
      exact ⟨e, fr, by rw [heap_alloc_get, if_pos hbs]⟩
    · obtain ⟨e', fr', h1⟩ := h.stab b a hb
      exact ⟨e', fr', old _ _ h1⟩
  · intro i esz' elems' hh
    rcases h.row i esz' elems' hh with h1 | ⟨c, cp, ar, e', h1, h2, h3, h4, h5, h6, h7, h8⟩
    · exact .inl h1
    · have hc := (Array.getElem?_eq_some_iff.1 h3).1
      exact .inr ⟨c, cp, ar, e', h1, h2, old _ _ h3, by simp only [Mem.addS]; rw [if_neg (by omega)]; exact h4, h5, h6, h7, fun a b x y => (h8 a b x y).mono hE⟩
  · intro i ck es hh
    obtain ⟨r, ms, h1, h2, h3, h4, h5⟩ := h.mpr i ck es hh
    exact ⟨r, ms, h1, h2, old _ _ h3, h4, fun a x => ⟨(h5 a x).1.mono hE, (h5 a x).2.1.mono hE, (h5 a x).2.2⟩⟩

/-! Maps. -/

def setObjW (w : World) (r : Nat) (o : Obj) : World := { w with heap := w.heap.setIfInBounds r o }
theorem setObjW_get {w : World} {r : Nat} {o o' : Obj} (h : w.heap[r]? = some o') (k : Nat) : (setObjW w r o).heap[k]? = if k = r then some o else w.heap[k]? := by
  have hlt : r < w.heap.size := (Array.getElem?_eq_some_iff.1 h).1
  unfold setObjW
  by_cases hk : k = r
  · subst hk; simp [hlt]
  · rw [if_neg hk]; simp [Array.getElem?_setIfInBounds_ne, Ne.symm hk]

def Mem.addM (M : Mem) (id r : Nat) : Mem := { M with mp := fun i => if i = id then some r else M.mp i }
theorem Mem.addM_ext {M : Mem} {id r : Nat} (h : M.mp id = none) : Ext M (M.addM id r) := by
  refine ⟨SLe.refl _, fun _ _ _ h => h, fun i r' hs => ?_, Nat.le_refl _⟩
  simp only [Mem.addM]
  split
  · rename_i e; subst e; rw [h] at hs; cases hs
  · exact hs
theorem Mem.addM_same (M : Mem) (id r : Nat) : (M.addM id r).mp id = some r := by simp [Mem.addM]
theorem Mem.addM_other {M : Mem} {id r i : Nat} (h : i ≠ id) : (M.addM id r).mp i = M.mp i := by simp only [Mem.addM]; rw [if_neg h]

theorem Inv.allocM {B : Nat} {M : Mem} {H H' : Heap} {w : World} (h : Inv B M H w) {slot : Option Nat} {id ck : Nat} (hp : put slot H (.mp ck []) = some (id, H')) :
    Ext M (M.addM id w.heap.size) ∧ Inv B (M.addM id w.heap.size) H' (w.alloc (.map #[] ck)) := by
  obtain ⟨hn, hi, ho⟩ := put_some hp
  have hnm : M.mp id = none := by
    cases hh : M.mp id with
    | none => rfl
    | some hb => obtain ⟨_, _, h1⟩ := h.mpH _ _ hh; exact (hn _ h1).elim
  have hE : Ext M (M.addM id w.heap.size) := Mem.addM_ext hnm
  refine ⟨hE, ?_⟩
  have old : ∀ (b : Nat) (x : Obj), w.heap[b]? = some x → (w.alloc (.map #[] ck)).heap[b]? = some x := by
    intro b x hb
    rw [heap_alloc_get, if_neg]; · exact hb
    have := (Array.getElem?_eq_some_iff.1 hb).1; omega
  have hlt : ∀ i r, M.mp i = some r → r < w.heap.size := fun i r hr => by
    obtain ⟨ck0, es, h1⟩ := h.mpH _ _ hr
    obtain ⟨r', ms, g1, _, g3, _⟩ := h.mpr _ _ _ h1
    rw [hr] at g1; cases g1
    exact (Array.getElem?_eq_some_iff.1 g3).1
  refine ⟨?_, ?_, ?_, ?_, ?_, ?_, ?_, ?_, Nat.le_trans h.lim (put_len hp), fun r ms hr => (h.mstab r ms hr).imp fun ck g => old _ _ g, fun i r hr => ?_⟩
  rotate_right
  · by_cases hk : i = id
    · subst hk
      rw [Mem.addM_same] at hr; cases hr
      cases hst : M.stab.m w.heap.size with
      | none => exact hst
      | some a => obtain ⟨_, h1⟩ := h.mstab _ _ hst; have := (Array.getElem?_eq_some_iff.1 h1).1; omega
    · rw [Mem.addM_other hk] at hr; exact h.mpS i r hr
  · have := h.base; simp; omega
  · intro b a hb
    obtain ⟨e', fr, h1⟩ := h.stab b a hb
    exact ⟨e', fr, old _ _ h1⟩
  · intro i s hb hh
    obtain ⟨a, b, h1, h2⟩ := h.histH _ _ _ hh
    by_cases hk : i = id
    · subst hk; exact (hn _ h1).elim
    · exact ⟨a, b, (ho i hk _).2 h1, h2⟩
  · intro i r hh
    by_cases hk : i = id
    · subst hk; exact ⟨ck, [], hi⟩
    · rw [Mem.addM_other hk] at hh
      obtain ⟨ck0, es, h1⟩ := h.mpH _ _ hh
      exact ⟨ck0, es, (ho i hk _).2 h1⟩
  · intro i esz' elems' hh
    by_cases hk : i = id
    · subst hk; rw [hi] at hh; cases hh
    · rcases h.row i esz' elems' ((ho i hk _).1 hh) with h1 | ⟨c, cp, ar, e', h1, h2, h3, h4, h5, h6, h7, h8⟩
      · exact .inl h1
      · exact .inr ⟨c, cp, ar, e', h1, h2, old _ _ h3, h4, h5, h6, h7, fun a b x y => (h8 a b x y).mono hE⟩
  · intro i ck es hh
    by_cases hk : i = id
    · subst hk
      rw [hi] at hh; cases hh
      exact ⟨w.heap.size, #[], Mem.addM_same _ _ _, h.base, by rw [heap_alloc_get, if_pos rfl], rfl, fun i hi => by simp at hi⟩
    · obtain ⟨r, ms, h1, h2, h3, h4, h5⟩ := h.mpr i ck es ((ho i hk _).1 hh)
      exact ⟨r, ms, by rw [Mem.addM_other hk]; exact h1, h2, old _ _ h3, h4, fun a x => ⟨(h5 a x).1.mono hE, (h5 a x).2.1.mono hE, (h5 a x).2.2⟩⟩
  · intro i i' z z' el el' hb hb' g g' k k' hblk
    have hk : i ≠ id := fun e => by subst e; rw [hi] at g; cases g
    have hk' : i' ≠ id := fun e => by subst e; rw [hi] at g'; cases g'
    exact h.inj i i' z z' el el' hb hb' ((ho i hk _).1 g) ((ho i' hk' _).1 g') k k' hblk
  · intro i i' r g g'
    by_cases hk : i = id
    · by_cases hk' : i' = id
      · rw [hk, hk']
      · rw [Mem.addM_other hk'] at g'
        subst hk
        rw [Mem.addM_same] at g; cases g
        have := hlt _ _ g'; omega
    · rw [Mem.addM_other hk] at g
      by_cases hk' : i' = id
      · subst hk'
        rw [Mem.addM_same] at g'; cases g'
        have := hlt _ _ g; omega
      · rw [Mem.addM_other hk'] at g'
        exact h.injm i i' r g g'

theorem Inv.setM {B : Nat} {M : Mem} {H : Heap} {w : World} (h : Inv B M H w) {id r : Nat} {es es' : List (Leaf × V × Nat)} {ms ms' : Array MapEntry} {ck ck' : Nat}
    (hid : H[id]? = some (some (.mp ck es))) (hr : M.mp id = some r) (hw : w.heap[r]? = some (.map ms ck)) (hs : ms'.size = es'.length)
    (hv : ∀ i, i < es'.length → VR M (es'.getD i default).1 (ms'.getD i default).key ∧ VV M (es'.getD i default).2.1 (ms'.getD i default).val ∧ (ms'.getD i default).born = (es'.getD i default).2.2) :
    Inv B M (H.set id (some (.mp ck' es'))) (setObjW w r (.map ms' ck')) := by
  have hlt : id < H.length := (List.getElem?_eq_some_iff.1 hid).1
  have get := fun k => setObjW_get (o := .map ms' ck') hw k
  have setI : ∀ k a, k ≠ id → ((H.set id (some (.mp ck' es')))[k]? = some (some a) ↔ H[k]? = some (some a)) := by
    intro k a hk; rw [List.getElem?_set_ne (Ne.symm hk)]
  have setS : (H.set id (some (.mp ck' es')))[id]? = some (some (.mp ck' es')) := by simp [hlt]
  obtain ⟨r0, _, g1, g2, _⟩ := h.mpr _ _ _ hid
  rw [hr] at g1; cases g1
  refine ⟨?_, ?_, ?_, ?_, ?_, ?_, ?_, h.injm, by rw [List.length_set]; exact h.lim, fun r' ms0 hr' => (h.mstab r' ms0 hr').imp fun ck g => by
    rw [get, if_neg (fun e => by subst e; rw [h.mpS _ _ hr] at hr'; cases hr')]; exact g, h.mpS⟩
  · have := h.base; simp [setObjW]; omega
  · intro b a hb
    obtain ⟨e', fr, h1⟩ := h.stab b a hb
    have : b ≠ r := fun e => by subst e; rw [hw] at h1; cases h1
    exact ⟨e', fr, by rw [get, if_neg this]; exact h1⟩
  · intro i s hb hx
    obtain ⟨a, b, h1, h2⟩ := h.histH _ _ _ hx
    have hk : i ≠ id := fun e => by subst e; rw [hid] at h1; cases h1
    exact ⟨a, b, (setI i _ hk).2 h1, h2⟩
  · intro i r' hx
    by_cases hk : i = id
    · subst hk; exact ⟨ck', es', setS⟩
    · obtain ⟨ck0, es, h1⟩ := h.mpH i r' hx
      exact ⟨ck0, es, (setI i _ hk).2 h1⟩
  · intro i esz' el hx
    have hk : i ≠ id := fun e => by subst e; rw [setS] at hx; cases hx
    rcases h.row i esz' el ((setI i _ hk).1 hx) with h1 | ⟨c1, cp, ar, e', h1, h2, h3, h4⟩
    · exact .inl h1
    have hne : c1 ≠ r := fun e => by subst e; rw [hw] at h3; cases h3
    exact .inr ⟨c1, cp, ar, e', h1, h2, by rw [get, if_neg hne]; exact h3, h4⟩
  · intro i ck1 es1 hx
    by_cases hk : i = id
    · subst hk
      rw [setS] at hx; cases hx
      exact ⟨r, ms', hr, g2, by rw [get, if_pos rfl], hs, hv⟩
    · obtain ⟨r1, ms1, h1, h2, h3, h4, h5⟩ := h.mpr i ck1 es1 ((setI i _ hk).1 hx)
      have hne : r1 ≠ r := fun e => by subst e; exact hk (h.injm _ _ _ h1 hr)
      exact ⟨r1, ms1, h1, h2, by rw [get, if_neg hne]; exact h3, h4, h5⟩
  · intro i i' z z' el el' hb hb' g g' k k' hblk
    have hk : i ≠ id := fun e => by subst e; rw [setS] at g; cases g
    have hk' : i' ≠ id := fun e => by subst e; rw [setS] at g'; cases g'
    exact h.inj i i' z z' el el' hb hb' ((setI i _ hk).1 g) ((setI i' _ hk').1 g') k k' hblk

/-! What a step leaves as it is: what lies below B, and the records of loops over functions. -/

def isMark : Obj → Bool
  | .deferred _ => true
  | .loop _ => true
  | _ => false

structure Below (B : Nat) (w w' : World) : Prop extends Go.RowKit.Below B w w' where
  mark : ∀ (k : Nat) (o : Obj), w.heap[k]? = some o → isMark o = true → w'.heap[k]? = some o

theorem Below.refl (B : Nat) (w : World) : Below B w w := ⟨Go.RowKit.Below.refl B w, fun _ _ h _ => h⟩
theorem Below.trans {B : Nat} {a b c : World} (h : Below B a b) (k : Below B b c) : Below B a c :=
  ⟨h.toBelow.trans k.toBelow, fun i o hi ho => k.mark i o (h.mark i o hi ho) ho⟩
theorem Below.drew {B : Nat} {a w : World} (h : Below B a w) : Below B a w.drew := ⟨h.toBelow.drew, h.mark⟩
theorem Below.alloc {B : Nat} {a w : World} (h : Below B a w) (hB : B ≤ w.heap.size) (o : Obj) : Below B a (w.alloc o) :=
  ⟨h.toBelow.alloc hB o, fun k o' hk ho => by
    have := h.mark k o' hk ho
    rw [Go.RowKit.Below.heap_alloc _ _ _ (Array.getElem?_eq_some_iff.1 this).1]; exact this⟩
theorem Below.mono {B B' : Nat} {w w' : World} (h : Below B w w') (hB : B' ≤ B) : Below B' w w' := ⟨h.toBelow.mono hB, h.mark⟩
end Go.Proofs.YtkbdhjfjbkmkcaaGreat.Abs
