/- YtkbdhjfjbkmkcaaGreatJT50: texts that follow each other, as one. -/
import Derived.Test.YtkbdhjfjbkmkcaaGreatJT44
import Derived.Test.YtkbdhjfjbkmkcaaGreatJT49
/- Operations, as the program tells them: its table; what an instruction makes. -/
set_option linter.unusedSectionVars false
set_option linter.unusedSimpArgs false
set_option linter.unusedVariables false
set_option maxRecDepth 100000
namespace Go.Proofs.YtkbdhjfjbkmkcaaGreat.Abs
open Go Go.RowKit Go.Proofs

structure OpRow where
  word : List UInt8
  t0 : Int
  t1 : Int
  made : Int
  traps : Bool
  reads : Bool
  writes : Bool
  seen : Bool
  ends : Bool
def opTab : List OpRow := [⟨[], 0, 0, 0, false, false, false, false, false⟩,
  ⟨[99, 111, 110, 115, 116], 0, 0, 1, false, false, false, false, false⟩,
  ⟨[97, 100, 100], 1, 1, 1, false, false, false, false, false⟩,
  ⟨[115, 117, 98], 1, 1, 1, false, false, false, false, false⟩,
  ⟨[109, 117, 108], 1, 1, 1, false, false, false, false, false⟩,
  ⟨[100, 105, 118], 1, 1, 1, true, false, false, false, false⟩,
  ⟨[108, 116], 1, 1, 1, false, false, false, false, false⟩,
  ⟨[101, 113], 1, 1, 1, false, false, false, false, false⟩,
  ⟨[110, 105, 108], 0, 0, 2, false, false, false, false, false⟩,
  ⟨[115, 97, 109, 101], 2, 2, 1, false, false, false, false, false⟩,
  ⟨[110, 101, 119], 0, 0, 2, false, false, false, false, false⟩,
  ⟨[108, 111, 97, 100, 46, 105], 2, 0, 1, true, true, false, false, false⟩,
  ⟨[108, 111, 97, 100, 46, 112], 2, 0, 2, true, true, false, false, false⟩,
  ⟨[115, 116, 111, 114, 101, 46, 105], 2, 1, 0, true, false, true, true, false⟩,
  ⟨[115, 116, 111, 114, 101, 46, 112], 2, 2, 0, true, false, true, true, false⟩,
  ⟨[115, 108, 111, 116], 2, 0, 3, true, false, false, false, false⟩,
  ⟨[103, 101, 116, 46, 105], 3, 0, 1, true, true, false, false, false⟩,
  ⟨[103, 101, 116, 46, 112], 3, 0, 2, true, true, false, false, false⟩,
  ⟨[112, 117, 116, 46, 105], 3, 1, 0, true, false, true, true, false⟩,
  ⟨[112, 117, 116, 46, 112], 3, 2, 0, true, false, true, true, false⟩,
  ⟨[112, 104, 105], 0, 0, 0, false, false, false, false, false⟩,
  ⟨[99, 97, 108, 108], 0, 0, 0, true, true, true, true, false⟩,
  ⟨[111, 117, 116], 1, 0, 0, false, false, false, true, false⟩,
  ⟨[112, 111, 108, 108], 0, 0, 0, false, false, false, true, false⟩,
  ⟨[114, 101, 108, 111, 99], 0, 0, 0, false, false, false, false, false⟩,
  ⟨[109, 97, 114, 107], 2, 0, 0, false, false, false, true, false⟩,
  ⟨[98, 114], 0, 0, 0, false, false, false, true, true⟩,
  ⟨[105, 102], 1, 0, 0, false, false, false, true, true⟩,
  ⟨[114, 101, 116], 0, 0, 0, false, false, false, true, true⟩,
  ⟨[102, 97, 105, 108], 0, 0, 0, true, false, false, true, true⟩]
def opZ : OpRow := ⟨[], 0, 0, 0, false, false, false, false, false⟩
def opRow (op : Int) : OpRow := if 1 ≤ op ∧ op ≤ 29 then opTab.getD op.toNat opZ else opZ
def encRow (r : OpRow) : List Leaf := [.str r.word, .int .i64 r.t0, .int .i64 r.t1, .int .i64 r.made, .bool r.traps, .bool r.reads, .bool r.writes, .bool r.seen, .bool r.ends]

theorem ops_tab : ((List.range 29).all fun i => sameR (Fast.runF Tryz.prog cfg [] 20 51 [.one (.int .i64 (.ofNat (i + 1)))] []) (.agg (encRow (opTab.getD (i + 1) opZ)), [], [])) = true := by decide +kernel
theorem ops_of (op : Int) : CX 51 [I op] [] = some (.agg (encRow (opRow op)), [], []) := by
  by_cases hc : 1 ≤ op ∧ op ≤ 29
  · obtain ⟨n, rfl⟩ : ∃ n : Nat, op = ((n + 1 : Nat) : Int) := ⟨op.toNat - 1, by omega⟩
    have h1 := List.all_eq_true.1 ops_tab n (by simp; omega)
    have h2 := sameR_eq h1
    unfold opRow
    rw [if_pos hc]
    exact CI_run _ (absCallT_le (TabOK.nil _ _) _ _ _ _ _ (Fast.runF_some (TabOK.nil _ _) h2))
  · have hk : cfg.keep 51 = 0 := rfl
    unfold opRow
    rw [if_neg hc]
    refine CI_of Tryz.func51 rfl 0 ?_
    by_cases h1 : op < 1
    · simp (disch := omega) [Tryz.f51, lz51, hk, encRow, opZ, h1, -getElem?_pos]
    · have h2 : 29 < op := by omega
      simp (disch := omega) [Tryz.f51, lz51, hk, encRow, opZ, h1, h2, -getElem?_pos]
theorem typedP (h : Heap) (op : Int) : CX 50 [I op] h = some (Bo (typedB op), h, []) := by
  refine CI_of Tryz.func50 rfl 0 ?_
  have hk : cfg.keep 50 = 0 := rfl
  unfold typedB
  by_cases h1 : op = 20
  · subst h1; simp (disch := omega) [Tryz.f50, lz50, hk, -getElem?_pos]
  · have b1 : (op == 20) = false := by simp [h1]
    by_cases h2 : op = 21
    · subst h2; simp (disch := omega) [Tryz.f50, lz50, hk, -getElem?_pos]
    · have b2 : (op == 21) = false := by simp [h2]
      simp (disch := omega) [Tryz.f50, lz50, hk, h1, b1, h2, b2, -getElem?_pos]
      by_cases h3 : op = 24 <;> simp [h3]
theorem row_mk {op : Int} (h : typedB op = false) (ty : Int) : (opRow op).made = makesF op ty := by
  by_cases hc : 1 ≤ op ∧ op ≤ 29
  · have ha : op = 1 ∨ op = 2 ∨ op = 3 ∨ op = 4 ∨ op = 5 ∨ op = 6 ∨ op = 7 ∨ op = 8 ∨ op = 9 ∨ op = 10 ∨ op = 11 ∨ op = 12 ∨ op = 13 ∨ op = 14 ∨ op = 15 ∨ op = 16 ∨ op = 17 ∨ op = 18 ∨ op = 19 ∨ op = 20 ∨ op = 21 ∨ op = 22 ∨ op = 23 ∨ op = 24 ∨ op = 25 ∨ op = 26 ∨ op = 27 ∨ op = 28 ∨ op = 29 := by omega
    rcases ha with rfl | rfl | rfl | rfl | rfl | rfl | rfl | rfl | rfl | rfl | rfl | rfl | rfl | rfl | rfl | rfl | rfl | rfl | rfl | rfl | rfl | rfl | rfl | rfl | rfl | rfl | rfl | rfl | rfl <;> first | rfl | (simp [typedB] at h)
  · unfold opRow makesF
    rw [if_neg hc, if_neg (by omega), if_neg (by omega), if_neg (by omega), if_neg (by omega)]
    rfl
theorem makesP (h : Heap) (x : Ins) : CX 31 [.agg (encIns x)] h = some (I (makesF x.op x.ty), h, []) := by
  have hk : cfg.keep 31 = 0 := rfl
  have e1 := fun h => typedP h x.op
  have e2 := ops_of x.op
  simp [encRow] at e2
  refine CI_of Tryz.func31 rfl 0 ?_
  cases ht : typedB x.op with
  | true =>
    have hm : makesF x.op x.ty = x.ty := by
      unfold makesF typedB at *
      simp at ht
      rw [if_pos ht]
    simp (disch := omega) [Tryz.f31, lz31, hk, encIns, e1, ht, hm, -getElem?_pos]
  | false =>
    have hm := row_mk ht x.ty
    simp (disch := omega) [Tryz.f31, lz31, hk, encIns, e1, e2, ht, hm, -getElem?_pos]
end Go.Proofs.YtkbdhjfjbkmkcaaGreat.Abs

/- Of which type each value of a function is: as the program tells it, as a map. -/
set_option linter.unusedSimpArgs false
set_option linter.unusedVariables false
namespace Go.Proofs.YtkbdhjfjbkmkcaaGreat.Abs
open Go Go.RowKit Go.Proofs

def putT (s : Nat × Ents) (k v : Int) : Nat × Ents := (mclkI k s.1 s.2, mputI k (I v) s.1 s.2)
def parT (s : Nat × Nat × Ents) (t : Int) : Nat × Nat × Ents := (s.1 + 1, putT s.2 (s.1 : Nat) t)
def insT (s : Nat × Ents) (x : Ins) : Nat × Ents := if makesF x.op x.ty != 0 then putT s x.id (makesF x.op x.ty) else s
def blkT (s : Nat × Ents) (l : List Ins) : Nat × Ents := l.foldl insT s
def typesE (f : Fn) : Ents := (f.blocks.foldl blkT (f.params.foldl parT (0, 0, [])).2).2
def OkT (s : Nat × Ents) : Prop := plainM s.2 = true ∧ treeM1 s.2 = true
theorem putT_ok {s : Nat × Ents} (h : OkT s) (k v : Int) : OkT (putT s k v) := ⟨plainM_put rfl h.1, treeM1_put rfl h.2⟩
theorem insT_ok {s : Nat × Ents} (h : OkT s) (x : Ins) : OkT (insT s x) := by
  unfold insT; split
  · exact putT_ok h _ _
  · exact h
theorem foldT_ok {α : Type} {k : Nat × Ents → α → Nat × Ents} (hk : ∀ s x, OkT s → OkT (k s x)) : ∀ (l : List α) (s : Nat × Ents), OkT s → OkT (l.foldl k s)
  | [], s, h => h
  | x :: l, s, h => foldT_ok hk l _ (hk s x h)
theorem blkT_ok {s : Nat × Ents} (h : OkT s) (l : List Ins) : OkT (blkT s l) := foldT_ok (fun s x h => insT_ok h x) l s h
theorem parT_ok : ∀ (l : List Int) (s : Nat × Nat × Ents), OkT s.2 → OkT (l.foldl parT s).2
  | [], s, h => h
  | x :: l, s, h => parT_ok l _ (putT_ok h _ _)

def tyS (h : Heap) (f : Fn) (s : Nat × Ents) (v15 v14 v13 v27 v26 v25 v33 v32 v31 : V) : St :=
  ⟨[(1, .one (.ptr h.length 1 0 0)), (15, v15), (14, v14), (13, v13), (3, .one (.map (h.length + 1))), (27, v27), (26, v26), (25, v25), (33, v33), (32, v32), (31, v31),
    (1015, .junk), (1014, .junk), (1013, .junk), (1033, .junk), (1032, .junk), (1031, .junk)], h ++ [some (.row 5 [encFn f]), some (.mp s.1 (mpI s.2))], []⟩
section
variable (h : Heap) (f : Fn) (hf : f.Ok)
include hf
theorem ty_par : lpK 15 Tryz.f15 48 0 h (tyS h f (0, []) (I (0 : Nat)) (I (f.params.length : Nat)) (Sl (intsOf f.params)) .junk .junk .junk .junk .junk .junk) =
    some (.exit 0, tyS h f (f.params.foldl parT (0, 0, [])).2 (I (f.params.length : Nat)) (I (f.params.length : Nat)) (Sl (intsOf f.params)) .junk .junk .junk .junk .junk .junk) := by
  have hpf : f.params.length ≤ 17592186044416 := hf.params
  refine loop_list (P := Tryz.prog) (C := cfg) (sc := runScope Tryz.prog cfg 48 h.length (cfg.live 15) 0) (N := 48) (n0 := h.length) (K := cfg.live 15) (c := loopAt Tryz.f15 0) f.params parT
    (fun i s => tyS h f s.2 (I (i : Nat)) (I (f.params.length : Nat)) (Sl (intsOf f.params)) .junk .junk .junk .junk .junk .junk) (fun s => (.exit 0, tyS h f s.2 (I (f.params.length : Nat)) (I (f.params.length : Nat)) (Sl (intsOf f.params)) .junk .junk .junk .junk .junk .junk))
    (fun i s => s.1 = i ∧ OkT s.2) ?_ ?_ (0, 0, []) ⟨rfl, rfl, rfl⟩
  · rintro i ⟨n, ck, ms⟩ t ht ⟨hn, hp⟩
    simp only at hn
    subst hn
    have hi := (List.getElem?_eq_some_iff.1 ht).1
    have hiI : ((n : Nat) : Int) < ((f.params.length : Nat) : Int) := by omega
    have hp' := putT_ok hp (n : Nat) t
    refine ⟨?_, rfl, hp'⟩
    have p1 := hp.1
    have p2 := hp'.1
    simp only [putT] at p1 p2
    simp (disch := omega) [round_eq, tyS, parT, putT, encFn, Tryz.f15, lv15, ht, hi, hiI, p1, p2, wrap_i64, -getElem?_pos]
  · rintro ⟨n, ck, ms⟩ ⟨hn, hp⟩
    refine ⟨?_, nofun⟩
    have p1 := hp.1
    simp only at p1
    simp (disch := omega) [round_eq, tyS, encFn, Tryz.f15, lv15, p1, -getElem?_pos]
theorem ty_code (k : Nat) (l : List Ins) (hl : f.blocks[k]? = some l) (s0 : Nat × Ents) (h0 : OkT s0) :
    lpK 15 Tryz.f15 48 2 h (tyS h f s0 .junk .junk .junk (I (k : Nat)) (I (f.blocks.length : Nat)) (Sl (blksOf f.blocks)) (I (0 : Nat)) (I (l.length : Nat)) (Sl (codeOf l))) =
    some (.exit 4, tyS h f (blkT s0 l) .junk .junk .junk (I (k : Nat)) (I (f.blocks.length : Nat)) (Sl (blksOf f.blocks)) (I (l.length : Nat)) (I (l.length : Nat)) (Sl (codeOf l))) := by
  have hlf : l.length ≤ 17592186044416 := hf.code l (List.mem_of_getElem? hl)
  refine loop_list (P := Tryz.prog) (C := cfg) (sc := runScope Tryz.prog cfg 48 h.length (cfg.live 15) 0) (N := 48) (n0 := h.length) (K := cfg.live 15) (c := loopAt Tryz.f15 2) l insT
    (fun i s => tyS h f s .junk .junk .junk (I (k : Nat)) (I (f.blocks.length : Nat)) (Sl (blksOf f.blocks)) (I (i : Nat)) (I (l.length : Nat)) (Sl (codeOf l)))
    (fun s => (.exit 4, tyS h f s .junk .junk .junk (I (k : Nat)) (I (f.blocks.length : Nat)) (Sl (blksOf f.blocks)) (I (l.length : Nat)) (I (l.length : Nat)) (Sl (codeOf l)))) (fun i s => OkT s) ?_ ?_ s0 h0
  · rintro i ⟨ck, ms⟩ x hx hp
    have hi := (List.getElem?_eq_some_iff.1 hx).1
    have hiI : ((i : Nat) : Int) < ((l.length : Nat) : Int) := by omega
    have hp' := insT_ok hp x
    refine ⟨?_, hp'⟩
    have p1 := hp.1
    have p2 := hp'.1
    have e1 := fun h => makesP h x
    simp [encIns] at e1
    unfold insT at p2 ⊢
    cases hm : (makesF x.op x.ty != 0) with
    | true =>
      have hm' : ¬ makesF x.op x.ty = 0 := by simpa using hm
      simp only [hm, if_true, putT] at p1 p2
      simp (disch := omega) [round_eq, tyS, putT, encFn, encIns, Tryz.f15, lv15, hx, hi, hiI, e1, hm, hm', p1, p2, wrap_i64, -getElem?_pos]
    | false =>
      have hm' : makesF x.op x.ty = 0 := by simpa using hm
      simp only at p1
      rw [hm'] at e1
      simp (disch := omega) [round_eq, tyS, encFn, encIns, Tryz.f15, lv15, hx, hi, hiI, e1, hm, hm', p1, wrap_i64, -getElem?_pos]
  · rintro ⟨ck, ms⟩ hp
    refine ⟨?_, nofun⟩
    have p1 := hp.1
    simp only at p1
    simp (disch := omega) [round_eq, tyS, encFn, Tryz.f15, lv15, p1, -getElem?_pos]
theorem ty_blk (s0 : Nat × Ents) (h0 : OkT s0) :
    lpK 15 Tryz.f15 48 1 h (tyS h f s0 .junk .junk .junk (I (0 : Nat)) (I (f.blocks.length : Nat)) (Sl (blksOf f.blocks)) .junk .junk .junk) =
    some (.exit 2, tyS h f (f.blocks.foldl blkT s0) .junk .junk .junk (I (f.blocks.length : Nat)) (I (f.blocks.length : Nat)) (Sl (blksOf f.blocks)) .junk .junk .junk) := by
  have hbf : f.blocks.length ≤ 17592186044416 := hf.blocks
  refine loop_list (P := Tryz.prog) (C := cfg) (sc := runScope Tryz.prog cfg 48 h.length (cfg.live 15) 0) (N := 48) (n0 := h.length) (K := cfg.live 15) (c := loopAt Tryz.f15 1) f.blocks blkT
    (fun i s => tyS h f s .junk .junk .junk (I (i : Nat)) (I (f.blocks.length : Nat)) (Sl (blksOf f.blocks)) .junk .junk .junk)
    (fun s => (.exit 2, tyS h f s .junk .junk .junk (I (f.blocks.length : Nat)) (I (f.blocks.length : Nat)) (Sl (blksOf f.blocks)) .junk .junk .junk)) (fun i s => OkT s) ?_ ?_ s0 h0
  · rintro i s l hl hp
    have hi := (List.getElem?_eq_some_iff.1 hl).1
    have hiI : ((i : Nat) : Int) < ((f.blocks.length : Nat) : Int) := by omega
    have hp' := blkT_ok hp l
    refine ⟨?_, hp'⟩
    have p1 := hp.1
    have p2 := hp'.1
    have e := ty_code h f hf i l hl s hp
    simp [tyS, encFn, lpK, lv15, Tryz.f15] at e
    simp (disch := omega) [round_eq, tyS, encFn, Tryz.f15, lv15, hl, hi, hiI, e, p1, p2, wrap_i64, -getElem?_pos]
  · rintro s hp
    refine ⟨?_, nofun⟩
    have p1 := hp.1
    simp (disch := omega) [round_eq, tyS, encFn, Tryz.f15, lv15, p1, -getElem?_pos]
theorem typesE_ok : OkT (f.blocks.foldl blkT (f.params.foldl parT (0, 0, [])).2) := foldT_ok (fun s x h => blkT_ok h x) _ _ (parT_ok f.params (0, 0, []) ⟨rfl, rfl⟩)
theorem typesP : CX 15 [.agg (encFn f)] h = some (.one (imI false (typesE f)), h, []) := by
  have hk : cfg.keep 15 = 0 := rfl
  have e1 := ty_par h f hf
  have e2 := ty_blk h f hf (f.params.foldl parT (0, 0, [])).2 (parT_ok f.params (0, 0, []) ⟨rfl, rfl⟩)
  have q1 := (parT_ok f.params (0, 0, []) ⟨rfl, rfl⟩).1
  have q2 := (typesE_ok f hf).1
  have q3 := (typesE_ok f hf).2
  refine CI_of Tryz.func15 rfl 0 ?_
  simp [tyS, encFn, lpK, lv15, Tryz.f15] at e1 e2
  simp (disch := omega) [Tryz.f15, lv15, hk, encFn, typesE, e1, e2, q1, q2, q3, -getElem?_pos]
  rfl
end
end Go.Proofs.YtkbdhjfjbkmkcaaGreat.Abs

/- Names, shapes, and whether an instruction may be, as the document tells it. -/
set_option linter.unusedSimpArgs false
set_option linter.unusedVariables false
namespace Go.Proofs.YtkbdhjfjbkmkcaaGreat.Abs
open Go Go.RowKit Go.Proofs

theorem may5 (h : Heap) (op ty : Int) : CX 73 [I op, I ty] h = some (Bo (mayB op ty), h, []) := by
  refine CI_of Tryz.func73 rfl 0 ?_
  have hk : cfg.keep 73 = 0 := rfl
  unfold mayB
  by_cases a1 : op = 20
  · have a1_0 : ((op) == (20)) = true := by simp; omega
    by_cases a2 : 1 ≤ ty
    · have _u := 0
      by_cases a3 : ty ≤ 3
      · have _u := 0
        simp (disch := omega) [Tryz.f73, hk, a1, a1_0, a2, a3, -getElem?_pos]
      · have _u := 0
        simp (disch := omega) [Tryz.f73, hk, a1, a1_0, a2, a3, -getElem?_pos]
    · have _u := 0
      simp (disch := omega) [Tryz.f73, hk, a1, a1_0, a2, -getElem?_pos]
  · have a1_0 : ((op) == (20)) = false := by simp; omega
    by_cases a4 : op = 21
    · have a4_0 : ((op) == (21)) = true := by simp; omega
      by_cases a5 : 0 ≤ ty
      · have _u := 0
        by_cases a6 : ty ≤ 2
        · have _u := 0
          simp (disch := omega) [Tryz.f73, hk, a1, a1_0, a4, a4_0, a5, a6, -getElem?_pos]
        · have _u := 0
          simp (disch := omega) [Tryz.f73, hk, a1, a1_0, a4, a4_0, a5, a6, -getElem?_pos]
      · have _u := 0
        simp (disch := omega) [Tryz.f73, hk, a1, a1_0, a4, a4_0, a5, -getElem?_pos]
    · have a4_0 : ((op) == (21)) = false := by simp; omega
      by_cases a7 : op = 24
      · have a7_0 : ((op) == (24)) = true := by simp; omega
        by_cases a8 : ty = 2
        · have a8_0 : ((ty) == (2)) = true := by simp; omega
          simp (disch := omega) [Tryz.f73, hk, a1, a1_0, a4, a4_0, a7, a7_0, a8, a8_0, -getElem?_pos]
        · have a8_0 : ((ty) == (2)) = false := by simp; omega
          by_cases a9 : ty = 3
          · have a9_0 : ((ty) == (3)) = true := by simp; omega
            simp (disch := omega) [Tryz.f73, hk, a1, a1_0, a4, a4_0, a7, a7_0, a8, a8_0, a9, a9_0, -getElem?_pos]
          · have a9_0 : ((ty) == (3)) = false := by simp; omega
            simp (disch := omega) [Tryz.f73, hk, a1, a1_0, a4, a4_0, a7, a7_0, a8, a8_0, a9, a9_0, -getElem?_pos]
      · have a7_0 : ((op) == (24)) = false := by simp; omega
        by_cases a10 : ty = 0
        · have a10_0 : ((ty) == (0)) = true := by simp; omega
          simp (disch := omega) [Tryz.f73, hk, a1, a1_0, a4, a4_0, a7, a7_0, a10, a10_0, -getElem?_pos]
        · have a10_0 : ((ty) == (0)) = false := by simp; omega
          simp (disch := omega) [Tryz.f73, hk, a1, a1_0, a4, a4_0, a7, a7_0, a10, a10_0, -getElem?_pos]

/-! Names. -/
def smallB (c : UInt8) : Bool := decide (97 ≤ c.toNat ∧ c.toNat ≤ 122)
def digitB (c : UInt8) : Bool := decide (48 ≤ c.toNat ∧ c.toNat ≤ 57)
def badC (i : Nat) (c : UInt8) : Bool := (!smallB c && decide (i = 0)) || (!smallB c && (!digitB c && decide (c.toNat ≠ 95)))
def nameB (s : List UInt8) : Bool := decide (1 ≤ s.length ∧ s.length ≤ 24) && (findI badC 0 s).isNone
def nmS (h : Heap) (s : List UInt8) (i : Nat) : St := ⟨[(0, .one (.str s)), (3, I (i : Nat)), (2, Bo false)], h, []⟩
theorem nm_loop (h : Heap) (s : List UInt8) (hs : s.length ≤ 24) : lpK 72 Tryz.f72 60 0 h (nmS h s 0) =
    some (match findI badC 0 s with | some i => (.ret, nmS h s i) | none => (.exit 0, nmS h s s.length)) := by
  have step : ∀ (i : Nat) (c : UInt8), s[i]? = some c → i < s.length → round Tryz.prog cfg (runScope Tryz.prog cfg 60 h.length (cfg.live 72) 0) 60 h.length (cfg.live 72) (loopAt Tryz.f72 0) (nmS h s i) =
      some (if badC i c = true then (.ret, nmS h s i) else (.normal, nmS h s (i + 1))) := by
    intro i c hc hi
    have hiI : ((i : Nat) : Int) < ((s.length : Nat) : Int) := by omega
    have hc2 : c.toNat < 256 := c.toNat_lt
    unfold badC smallB digitB
    generalize hm : c.toNat = m at *
    by_cases s1 : 97 ≤ m
    · have s1_0 : (97 : Int) ≤ ((m : Nat) : Int) := by omega
      by_cases s2 : m ≤ 122
      · have s2_0 : ((m : Nat) : Int) ≤ (122 : Int) := by omega
        by_cases i0 : i = 0
        · subst i0
          by_cases d1a : 48 ≤ m
          · have d1a_0 : (48 : Int) ≤ ((m : Nat) : Int) := by omega
            by_cases d2a : m ≤ 57
            · have d2a_0 : ((m : Nat) : Int) ≤ (57 : Int) := by omega
              first | (exfalso; omega) | simp (disch := omega) [round_eq, nmS, Tryz.f72, lv72, hc, hm, hi, hiI, wrap_i64, s1, s1_0, s2, s2_0, d1a, d1a_0, d2a, d2a_0, -getElem?_pos]
            · have d2a_0 : ¬ ((m : Nat) : Int) ≤ (57 : Int) := by omega
              first | (exfalso; omega) | simp (disch := omega) [round_eq, nmS, Tryz.f72, lv72, hc, hm, hi, hiI, wrap_i64, s1, s1_0, s2, s2_0, d1a, d1a_0, d2a, d2a_0, -getElem?_pos]
          · have d1a_0 : ¬ (48 : Int) ≤ ((m : Nat) : Int) := by omega
            first | (exfalso; omega) | simp (disch := omega) [round_eq, nmS, Tryz.f72, lv72, hc, hm, hi, hiI, wrap_i64, s1, s1_0, s2, s2_0, d1a, d1a_0, -getElem?_pos]
        · have i0_0 : ((((i : Nat) : Int)) == (0)) = false := by simp; omega
          by_cases d1b : 48 ≤ m
          · have d1b_0 : (48 : Int) ≤ ((m : Nat) : Int) := by omega
            by_cases d2b : m ≤ 57
            · have d2b_0 : ((m : Nat) : Int) ≤ (57 : Int) := by omega
              first | (exfalso; omega) | simp (disch := omega) [round_eq, nmS, Tryz.f72, lv72, hc, hm, hi, hiI, wrap_i64, s1, s1_0, s2, s2_0, i0, i0_0, d1b, d1b_0, d2b, d2b_0, -getElem?_pos]
            · have d2b_0 : ¬ ((m : Nat) : Int) ≤ (57 : Int) := by omega
              first | (exfalso; omega) | simp (disch := omega) [round_eq, nmS, Tryz.f72, lv72, hc, hm, hi, hiI, wrap_i64, s1, s1_0, s2, s2_0, i0, i0_0, d1b, d1b_0, d2b, d2b_0, -getElem?_pos]
          · have d1b_0 : ¬ (48 : Int) ≤ ((m : Nat) : Int) := by omega
            first | (exfalso; omega) | simp (disch := omega) [round_eq, nmS, Tryz.f72, lv72, hc, hm, hi, hiI, wrap_i64, s1, s1_0, s2, s2_0, i0, i0_0, d1b, d1b_0, -getElem?_pos]
      · have s2_0 : ¬ ((m : Nat) : Int) ≤ (122 : Int) := by omega
        by_cases i0 : i = 0
        · subst i0
          by_cases d1cx : 48 ≤ m
          · have d1cx_0 : (48 : Int) ≤ ((m : Nat) : Int) := by omega
            by_cases d2cx : m ≤ 57
            · have d2cx_0 : ((m : Nat) : Int) ≤ (57 : Int) := by omega
              first | (exfalso; omega) | simp (disch := omega) [round_eq, nmS, Tryz.f72, lv72, hc, hm, hi, hiI, wrap_i64, s1, s1_0, s2, s2_0, d1cx, d1cx_0, d2cx, d2cx_0, -getElem?_pos]
            · have d2cx_0 : ¬ ((m : Nat) : Int) ≤ (57 : Int) := by omega
              first | (exfalso; omega) | simp (disch := omega) [round_eq, nmS, Tryz.f72, lv72, hc, hm, hi, hiI, wrap_i64, s1, s1_0, s2, s2_0, d1cx, d1cx_0, d2cx, d2cx_0, -getElem?_pos]
          · have d1cx_0 : ¬ (48 : Int) ≤ ((m : Nat) : Int) := by omega
            first | (exfalso; omega) | simp (disch := omega) [round_eq, nmS, Tryz.f72, lv72, hc, hm, hi, hiI, wrap_i64, s1, s1_0, s2, s2_0, d1cx, d1cx_0, -getElem?_pos]
        · have i0_0 : ((((i : Nat) : Int)) == (0)) = false := by simp; omega
          by_cases d1cy : 48 ≤ m
          · have d1cy_0 : (48 : Int) ≤ ((m : Nat) : Int) := by omega
            by_cases d2cy : m ≤ 57
            · have d2cy_0 : ((m : Nat) : Int) ≤ (57 : Int) := by omega
              first | (exfalso; omega) | simp (disch := omega) [round_eq, nmS, Tryz.f72, lv72, hc, hm, hi, hiI, wrap_i64, s1, s1_0, s2, s2_0, i0, i0_0, d1cy, d1cy_0, d2cy, d2cy_0, -getElem?_pos]
            · have d2cy_0 : ¬ ((m : Nat) : Int) ≤ (57 : Int) := by omega
              by_cases u0 : m = 95
              · have u0_0 : ((((m : Nat) : Int)) != (95)) = false := by simp; omega
                first | (exfalso; omega) | simp (disch := omega) [round_eq, nmS, Tryz.f72, lv72, hc, hm, hi, hiI, wrap_i64, s1, s1_0, s2, s2_0, i0, i0_0, d1cy, d1cy_0, d2cy, d2cy_0, u0, u0_0, -getElem?_pos]
              · have u0_0 : ((((m : Nat) : Int)) != (95)) = true := by simp; omega
                first | (exfalso; omega) | simp (disch := omega) [round_eq, nmS, Tryz.f72, lv72, hc, hm, hi, hiI, wrap_i64, s1, s1_0, s2, s2_0, i0, i0_0, d1cy, d1cy_0, d2cy, d2cy_0, u0, u0_0, -getElem?_pos]
          · have d1cy_0 : ¬ (48 : Int) ≤ ((m : Nat) : Int) := by omega
            by_cases u0 : m = 95
            · have u0_0 : ((((m : Nat) : Int)) != (95)) = false := by simp; omega
              first | (exfalso; omega) | simp (disch := omega) [round_eq, nmS, Tryz.f72, lv72, hc, hm, hi, hiI, wrap_i64, s1, s1_0, s2, s2_0, i0, i0_0, d1cy, d1cy_0, u0, u0_0, -getElem?_pos]
            · have u0_0 : ((((m : Nat) : Int)) != (95)) = true := by simp; omega
              first | (exfalso; omega) | simp (disch := omega) [round_eq, nmS, Tryz.f72, lv72, hc, hm, hi, hiI, wrap_i64, s1, s1_0, s2, s2_0, i0, i0_0, d1cy, d1cy_0, u0, u0_0, -getElem?_pos]
    · have s1_0 : ¬ (97 : Int) ≤ ((m : Nat) : Int) := by omega
      by_cases i0 : i = 0
      · subst i0
        by_cases d1ex : 48 ≤ m
        · have d1ex_0 : (48 : Int) ≤ ((m : Nat) : Int) := by omega
          by_cases d2ex : m ≤ 57
          · have d2ex_0 : ((m : Nat) : Int) ≤ (57 : Int) := by omega
            first | (exfalso; omega) | simp (disch := omega) [round_eq, nmS, Tryz.f72, lv72, hc, hm, hi, hiI, wrap_i64, s1, s1_0, d1ex, d1ex_0, d2ex, d2ex_0, -getElem?_pos]
          · have d2ex_0 : ¬ ((m : Nat) : Int) ≤ (57 : Int) := by omega
            first | (exfalso; omega) | simp (disch := omega) [round_eq, nmS, Tryz.f72, lv72, hc, hm, hi, hiI, wrap_i64, s1, s1_0, d1ex, d1ex_0, d2ex, d2ex_0, -getElem?_pos]
        · have d1ex_0 : ¬ (48 : Int) ≤ ((m : Nat) : Int) := by omega
          first | (exfalso; omega) | simp (disch := omega) [round_eq, nmS, Tryz.f72, lv72, hc, hm, hi, hiI, wrap_i64, s1, s1_0, d1ex, d1ex_0, -getElem?_pos]
      · have i0_0 : ((((i : Nat) : Int)) == (0)) = false := by simp; omega
        by_cases d1ey : 48 ≤ m
        · have d1ey_0 : (48 : Int) ≤ ((m : Nat) : Int) := by omega
          by_cases d2ey : m ≤ 57
          · have d2ey_0 : ((m : Nat) : Int) ≤ (57 : Int) := by omega
            first | (exfalso; omega) | simp (disch := omega) [round_eq, nmS, Tryz.f72, lv72, hc, hm, hi, hiI, wrap_i64, s1, s1_0, i0, i0_0, d1ey, d1ey_0, d2ey, d2ey_0, -getElem?_pos]
          · have d2ey_0 : ¬ ((m : Nat) : Int) ≤ (57 : Int) := by omega
            by_cases u0 : m = 95
            · have u0_0 : ((((m : Nat) : Int)) != (95)) = false := by simp; omega
              first | (exfalso; omega) | simp (disch := omega) [round_eq, nmS, Tryz.f72, lv72, hc, hm, hi, hiI, wrap_i64, s1, s1_0, i0, i0_0, d1ey, d1ey_0, d2ey, d2ey_0, u0, u0_0, -getElem?_pos]
            · have u0_0 : ((((m : Nat) : Int)) != (95)) = true := by simp; omega
              first | (exfalso; omega) | simp (disch := omega) [round_eq, nmS, Tryz.f72, lv72, hc, hm, hi, hiI, wrap_i64, s1, s1_0, i0, i0_0, d1ey, d1ey_0, d2ey, d2ey_0, u0, u0_0, -getElem?_pos]
        · have d1ey_0 : ¬ (48 : Int) ≤ ((m : Nat) : Int) := by omega
          by_cases u0 : m = 95
          · have u0_0 : ((((m : Nat) : Int)) != (95)) = false := by simp; omega
            first | (exfalso; omega) | simp (disch := omega) [round_eq, nmS, Tryz.f72, lv72, hc, hm, hi, hiI, wrap_i64, s1, s1_0, i0, i0_0, d1ey, d1ey_0, u0, u0_0, -getElem?_pos]
          · have u0_0 : ((((m : Nat) : Int)) != (95)) = true := by simp; omega
            first | (exfalso; omega) | simp (disch := omega) [round_eq, nmS, Tryz.f72, lv72, hc, hm, hi, hiI, wrap_i64, s1, s1_0, i0, i0_0, d1ey, d1ey_0, u0, u0_0, -getElem?_pos]
  refine loop_search s badC (nmS h s) (fun i => (.ret, nmS h s i)) (.exit 0, nmS h s s.length) ?_ ?_ ?_
  · intro i x hx hi hp _
    rw [step i x hx hi, hp]; rfl
  · intro i x hx hi hp _
    rw [step i x hx hi, hp]; exact ⟨rfl, nofun⟩
  · intro _
    refine ⟨?_, nofun⟩
    simp (disch := omega) [round_eq, nmS, Tryz.f72, lv72, -getElem?_pos]
end Go.Proofs.YtkbdhjfjbkmkcaaGreat.Abs

/- Shapes, and whether an instruction may be, as the document tells it. -/
set_option linter.unusedSimpArgs false
set_option linter.unusedVariables false
namespace Go.Proofs.YtkbdhjfjbkmkcaaGreat.Abs
open Go Go.RowKit Go.Proofs

theorem name2 (h : Heap) (s : List UInt8) : CX 72 [.one (.str s)] h = some (Bo (nameB s), h, []) := by
  have hk : cfg.keep 72 = 0 := rfl
  refine CI_of Tryz.func72 rfl 0 ?_
  unfold nameB
  by_cases h1 : 1 ≤ s.length
  · by_cases h2 : s.length ≤ 24
    · have e := nm_loop h s h2
      simp [nmS, lpK, lv72, Tryz.f72] at e
      have g1 : ¬ ((s.length : Nat) : Int) < 1 := by omega
      have g2 : ¬ (24 : Int) < ((s.length : Nat) : Int) := by omega
      have g3 : ¬ s.length < 1 := by omega
      have g4 : ¬ 24 < s.length := by omega
      cases hh : findI badC 0 s <;> rw [hh] at e <;> simp (disch := omega) [Tryz.f72, lv72, hk, h1, h2, g1, g2, g3, g4, e, -getElem?_pos]
    · have g1 : ¬ ((s.length : Nat) : Int) < 1 := by omega
      have g2 : (24 : Int) < ((s.length : Nat) : Int) := by omega
      have g3 : ¬ s.length < 1 := by omega
      have g4 : 24 < s.length := by omega
      simp (disch := omega) [Tryz.f72, lv72, hk, h1, h2, g1, g2, g3, g4, -getElem?_pos]
  · have h0 : s = [] := List.length_eq_zero_iff.1 (by omega)
    subst h0
    simp (disch := omega) [Tryz.f72, lv72, hk, -getElem?_pos]

def powI : Nat → Int
  | 0 => 1
  | n + 1 => IntKind.i64.wrap (powI n * 2)
def pwS (h : Heap) (n i : Nat) (v : Int) : St := ⟨[(4, I (i : Nat)), (0, I (n : Nat)), (3, I v)], h, []⟩
theorem pow_loop (h : Heap) (n : Nat) (hn : n ≤ 1000000) : lpK 105 Tryz.f105 13 0 h (pwS h n 0 1) = some (.exit 0, pwS h n n (powI n)) := by
  have key := loop_fun (P := Tryz.prog) (C := cfg) (sc := runScope Tryz.prog cfg 13 h.length (cfg.live 105) 0) (N := 13) (n0 := h.length) (K := cfg.live 105) (c := loopAt Tryz.f105 0)
    (fun i : Nat => pwS h n i (powI i)) (fun i => i ≤ n) (fun i => n - i) (fun _ => (.exit 0, pwS h n n (powI n))) ?_ 0 (Nat.zero_le _)
  · exact key
  intro i hi
  rcases Nat.lt_or_ge i n with hlt | hge
  · have hltI : ((i : Nat) : Int) < ((n : Nat) : Int) := by omega
    refine .inl ⟨i + 1, ?_, hlt, by omega, rfl⟩
    have : powI (i + 1) = IntKind.i64.wrap (powI i * 2) := rfl
    rw [this]
    generalize powI i = v at *
    simp (disch := omega) [round_eq, pwS, Tryz.f105, lv105, hlt, hltI, wrap_i64, -getElem?_pos]
  · have : i = n := by omega
    subst this
    refine .inr ⟨?_, nofun⟩
    simp (disch := omega) [round_eq, pwS, Tryz.f105, lv105, -getElem?_pos]
theorem power3 (h : Heap) (n : Nat) (hn : n ≤ 1000000) : CX 105 [I (n : Nat)] h = some (I (powI n), h, []) := by
  have e := pow_loop h n hn
  have hk : cfg.keep 105 = 0 := rfl
  refine CI_of Tryz.func105 rfl 0 ?_
  simp [pwS, lpK, lv105, Tryz.f105] at e
  simp (disch := omega) [Tryz.f105, lv105, hk, e, -getElem?_pos]

def psS (h : Heap) (s : List UInt8) (i : Nat) (mk c a b : Int) : St := ⟨[(0, .one (.str s)), (2, .one (.ptr h.length 1 0 0)), (5, I (i : Nat)), (4, I mk), (3, I c)], h ++ [some (.row 2 [[.int .i64 a, .int .i64 b]])], []⟩
theorem ps_loop (h : Heap) (s : List UInt8) (hs : s.length ≤ 16) : ∃ i mk, lpK 76 Tryz.f76 46 0 h (psS h s 0 0 0 0 0) = some (.ret, psS h s i mk 16 0 0) ∨ lpK 76 Tryz.f76 46 0 h (psS h s 0 0 0 0 0) = some (.exit 0, psS h s i mk 0 0 0) := by
  have key := loop_rel (P := Tryz.prog) (C := cfg) (sc := runScope Tryz.prog cfg 46 h.length (cfg.live 76) 0) (N := 46) (n0 := h.length) (K := cfg.live 76) (c := loopAt Tryz.f76 0)
    (fun x : Nat × Int => psS h s x.1 x.2 0 0 0) (fun x => x.1 ≤ s.length) (fun x => s.length - x.1) (fun _ r => ∃ i mk, r = (.ret, psS h s i mk 16 0 0) ∨ r = (.exit 0, psS h s i mk 0 0 0)) ?_ (0, 0) (Nat.zero_le _)
  · obtain ⟨r, h1, i, mk, rfl | rfl⟩ := key
    · exact ⟨i, mk, .inl h1⟩
    · exact ⟨i, mk, .inr h1⟩
  rintro ⟨i, mk⟩ hi
  simp only at hi ⊢
  rcases Nat.lt_or_ge i s.length with hlt | hge
  · have hltI : ((i : Nat) : Int) < ((s.length : Nat) : Int) := by omega
    obtain ⟨c, hc⟩ : ∃ c, s[i]? = some c := ⟨_, List.getElem?_eq_getElem hlt⟩
    have e := fun h => power3 h i (by omega)
    have hmm : c.toNat = c.toNat := rfl
    generalize hm : c.toNat = m at *
    by_cases h1 : m = 105
    · subst h1
      refine .inl ⟨(i + 1, mk), ?_, hlt, by simp only; omega, fun r h => h⟩
      simp (disch := omega) [round_eq, psS, Tryz.f76, lv76, hc, hm, hlt, hltI, wrap_i64, -getElem?_pos]
    · have b1 : (((m : Nat) : Int) != 105) = true := by simp; omega
      by_cases h2 : m = 112
      · subst h2
        refine .inl ⟨(i + 1, IntKind.i64.wrap (mk + powI i)), ?_, hlt, by simp only; omega, fun r h => h⟩
        generalize powI i = v at *
        simp (disch := omega) [round_eq, psS, Tryz.f76, lv76, hc, hm, hlt, hltI, e, wrap_i64, -getElem?_pos]
      · have b2 : (((m : Nat) : Int) != 112) = true := by simp; omega
        refine .inr ⟨(.ret, psS h s i mk 16 0 0), ?_, nofun, i, mk, .inl rfl⟩
        simp (disch := omega) [round_eq, psS, Tryz.f76, lv76, hc, hm, hlt, hltI, h1, h2, b1, b2, wrap_i64, -getElem?_pos]
  · have : i = s.length := by omega
    subst this
    refine .inr ⟨(.exit 0, psS h s s.length mk 0 0 0), ?_, nofun, s.length, mk, .inr rfl⟩
    simp (disch := omega) [round_eq, psS, Tryz.f76, lv76, -getElem?_pos]
theorem parse3 (h : Heap) (s : List UInt8) : ∃ a b c, CX 76 [.one (.str s)] h = some (.tup [.agg [.int .i64 a, .int .i64 b], I c], h, []) := by
  have hk : cfg.keep 76 = 0 := rfl
  by_cases h1 : s = [46]
  · refine ⟨0, 0, 0, CI_of Tryz.func76 rfl 0 ?_⟩
    subst h1
    simp (disch := omega) [Tryz.f76, lv76, hk, -getElem?_pos]
  · have b1 : (s == [46]) = false := by simp [h1]
    by_cases h2 : s = []
    · refine ⟨0, 0, 16, CI_of Tryz.func76 rfl 0 ?_⟩
      subst h2
      simp (disch := omega) [Tryz.f76, lv76, hk, -getElem?_pos]
    · have b2 : (s == []) = false := by simp [h2]
      by_cases h3 : s.length ≤ 16
      · have g1 : ¬ (16 : Int) < ((s.length : Nat) : Int) := by omega
        have g2 : ¬ 16 < s.length := by omega
        obtain ⟨i, mk, e | e⟩ := ps_loop h s h3
        · simp [psS, lpK, lv76, Tryz.f76] at e
          refine ⟨0, 0, 16, CI_of Tryz.func76 rfl 0 ?_⟩
          simp (disch := omega) [Tryz.f76, lv76, hk, b1, b2, h1, h2, g1, g2, e, -getElem?_pos]
        · simp [psS, lpK, lv76, Tryz.f76] at e
          refine ⟨s.length, mk, 0, CI_of Tryz.func76 rfl 0 ?_⟩
          simp (disch := omega) [Tryz.f76, lv76, hk, b1, b2, h1, h2, g1, g2, e, -getElem?_pos]
      · have g1 : (16 : Int) < ((s.length : Nat) : Int) := by omega
        have g2 : 16 < s.length := by omega
        refine ⟨0, 0, 16, CI_of Tryz.func76 rfl 0 ?_⟩
        simp (disch := omega) [Tryz.f76, lv76, hk, b1, b2, h1, h2, g1, g2, -getElem?_pos]
end Go.Proofs.YtkbdhjfjbkmkcaaGreat.Abs

/- Whether an instruction may be, as the document tells it. -/
set_option linter.unusedSimpArgs false
set_option linter.unusedVariables false
namespace Go.Proofs.YtkbdhjfjbkmkcaaGreat.Abs
open Go Go.RowKit Go.Proofs

structure InsW (x : Ins) : Prop where
  op1 : 1 ≤ x.op
  op2 : x.op ≤ 29
  may : mayB x.op x.ty = true
  idv : makesF x.op x.ty ≠ 0 → 0 ≤ x.id ∧ x.id ≤ 1048576
  idn : makesF x.op x.ty = 0 → x.id = -1
  counts : countsB x.op x.args.length x.to.length = true
  args : ∀ a, a ∈ x.args → 0 ≤ a ∧ a ≤ 1048576
  to : ∀ b, b ∈ x.to → 0 ≤ b ∧ b ≤ 255
  num : mostF x.op < 0 → x.n = 0
  num2 : 0 ≤ mostF x.op → x.n ≤ mostF x.op

def badA (_ : Nat) (a : Int) : Bool := decide (a < 0) || decide (1048576 < a)
def badT (_ : Nat) (a : Int) : Bool := decide (a < 0) || decide (255 < a)
def ckS (h : Heap) (x : Ins) (v5 v6 : V) (c : Int) : St := ⟨[(1, .one (.ptr h.length 1 0 0)), (5, v5), (6, v6), (2, I c)], h ++ [some (.row 8 [encIns x])], []⟩
theorem ck_a (h : Heap) (x : Ins) (hx : x.Ok) : lpK 43 Tryz.f43 152 0 h ((fun i : Nat => ckS h x (I (i : Nat)) .junk 0) 0) = some (match findI badA 0 x.args with | some i => (.ret, (fun i : Nat => ckS h x (I (i : Nat)) .junk 8) i) | none => (.exit 0, (fun i : Nat => ckS h x (I (i : Nat)) .junk 0) x.args.length)) := by
  have h1 := hx.args
  have h2 := hx.to
  refine loop_search x.args badA (fun i : Nat => ckS h x (I (i : Nat)) .junk 0) (fun i => (.ret, (fun i : Nat => ckS h x (I (i : Nat)) .junk 8) i)) (.exit 0, (fun i : Nat => ckS h x (I (i : Nat)) .junk 0) x.args.length) ?_ ?_ ?_
  · intro i a ha hi hp _
    have hiI : ((i : Nat) : Int) < ((x.args.length : Nat) : Int) := by omega
    simp only [badA, Bool.or_eq_false_iff, decide_eq_false_iff_not] at hp
    obtain ⟨p1, p2⟩ := hp
    simp (disch := omega) [round_eq, ckS, encIns, Tryz.f43, lv43, ha, hi, hiI, p1, p2, wrap_i64, -getElem?_pos]
  · intro i a ha hi hp _
    have hiI : ((i : Nat) : Int) < ((x.args.length : Nat) : Int) := by omega
    simp only [badA, Bool.or_eq_true, decide_eq_true_iff] at hp
    by_cases p1 : a < 0
    · simp (disch := omega) [round_eq, ckS, encIns, Tryz.f43, lv43, ha, hi, hiI, p1, wrap_i64, -getElem?_pos]
    · have p2 := hp.resolve_left p1
      simp (disch := omega) [round_eq, ckS, encIns, Tryz.f43, lv43, ha, hi, hiI, p1, p2, wrap_i64, -getElem?_pos]
  · intro _
    simp (disch := omega) [round_eq, ckS, encIns, Tryz.f43, lv43, -getElem?_pos]
theorem ck_t (h : Heap) (x : Ins) (hx : x.Ok) : lpK 43 Tryz.f43 152 1 h ((fun i : Nat => ckS h x (I (x.args.length : Nat)) (I (i : Nat)) 0) 0) = some (match findI badT 0 x.to with | some i => (.ret, (fun i : Nat => ckS h x (I (x.args.length : Nat)) (I (i : Nat)) 7) i) | none => (.exit 2, (fun i : Nat => ckS h x (I (x.args.length : Nat)) (I (i : Nat)) 0) x.to.length)) := by
  have h1 := hx.args
  have h2 := hx.to
  refine loop_search x.to badT (fun i : Nat => ckS h x (I (x.args.length : Nat)) (I (i : Nat)) 0) (fun i => (.ret, (fun i : Nat => ckS h x (I (x.args.length : Nat)) (I (i : Nat)) 7) i)) (.exit 2, (fun i : Nat => ckS h x (I (x.args.length : Nat)) (I (i : Nat)) 0) x.to.length) ?_ ?_ ?_
  · intro i a ha hi hp _
    have hiI : ((i : Nat) : Int) < ((x.to.length : Nat) : Int) := by omega
    simp only [badT, Bool.or_eq_false_iff, decide_eq_false_iff_not] at hp
    obtain ⟨p1, p2⟩ := hp
    simp (disch := omega) [round_eq, ckS, encIns, Tryz.f43, lv43, ha, hi, hiI, p1, p2, wrap_i64, -getElem?_pos]
  · intro i a ha hi hp _
    have hiI : ((i : Nat) : Int) < ((x.to.length : Nat) : Int) := by omega
    simp only [badT, Bool.or_eq_true, decide_eq_true_iff] at hp
    by_cases p1 : a < 0
    · simp (disch := omega) [round_eq, ckS, encIns, Tryz.f43, lv43, ha, hi, hiI, p1, wrap_i64, -getElem?_pos]
    · have p2 := hp.resolve_left p1
      simp (disch := omega) [round_eq, ckS, encIns, Tryz.f43, lv43, ha, hi, hiI, p1, p2, wrap_i64, -getElem?_pos]
  · intro _
    simp (disch := omega) [round_eq, ckS, encIns, Tryz.f43, lv43, -getElem?_pos]

set_option maxHeartbeats 4000000 in
theorem check7 (h : Heap) (x : Ins) (hx : x.Ok) : ∃ c, CX 43 [.agg (encIns x)] h = some (I c, h, []) ∧ (c = 0 → InsW x) := by
  have hk : cfg.keep 43 = 0 := rfl
  have e1 := fun h => may5 h x.op x.ty
  have e2 := fun h => makes5 h x.op x rfl
  have hA := hx.args
  have hB := hx.to
  have e3 := fun h => counts7 h x (Nat.le_trans hx.args (by omega)) (Nat.le_trans hx.to (by omega))
  have e4 := fun h => most7 h x.op
  have e5 := ck_a h x hx
  have e6 := ck_t h x hx
  obtain ⟨pa, pb, pc, e7⟩ := parse3 (h ++ [some (.row 8 [encIns x])]) x.name
  have e8 := fun h => name2 h x.name
  have hgood : 1 ≤ x.op → x.op ≤ 29 → mayB x.op x.ty = true → (makesF x.op x.ty ≠ 0 → 0 ≤ x.id ∧ x.id ≤ 1048576) → (makesF x.op x.ty = 0 → x.id = -1) → countsB x.op x.args.length x.to.length = true → findI badA 0 x.args = none → findI badT 0 x.to = none →
      (mostF x.op < 0 → x.n = 0) → (0 ≤ mostF x.op → x.n ≤ mostF x.op) → InsW x := fun g1 g2 g3 g4 g5 g6 g7 g8 g9 g10 => by
    refine ⟨g1, g2, g3, g4, g5, g6, fun a ha => ?_, fun b hb => ?_, g9, g10⟩
    · obtain ⟨i, hi⟩ := List.getElem?_of_mem ha
      have := findI_none.1 g7 i a hi
      simp only [badA, Bool.or_eq_false_iff, decide_eq_false_iff_not] at this
      omega
    · obtain ⟨i, hi⟩ := List.getElem?_of_mem hb
      have := findI_none.1 g8 i b hi
      simp only [badT, Bool.or_eq_false_iff, decide_eq_false_iff_not] at this
      omega
  obtain ⟨op, id, n, ty, args, to, name, at_⟩ := x
  simp only [encIns] at e1 e2 e3 e4 e5 e6 e7 e8 hgood hA hB ⊢
  simp [ckS, encIns, lpK, lv43, Tryz.f43] at e5 e6 e7
  generalize mayB op ty = mb at *
  generalize makesF op ty = mk at *
  generalize countsB op args.length to.length = cb at *
  generalize mostF op = top at *
  generalize findI badA 0 args = fa at *
  generalize findI badT 0 to = ft at *
  generalize nameB name = nb at *
  by_cases p1 : op < 1
  · have _u := 0
    refine ⟨2, CI_of Tryz.func43 rfl 0 ?_, fun h => by simp at h⟩
    simp (disch := omega) [Tryz.f43, lv43, hk, encIns, e1, e2, e3, e4, e5, e6, e7, e8, p1, -getElem?_pos]
  · have _u := 0
    by_cases p2 : 29 < op
    · have _u := 0
      refine ⟨2, CI_of Tryz.func43 rfl 0 ?_, fun h => by simp at h⟩
      simp (disch := omega) [Tryz.f43, lv43, hk, encIns, e1, e2, e3, e4, e5, e6, e7, e8, p1, p2, -getElem?_pos]
    · have _u := 0
      cases mb with
      | true =>
        by_cases mz : mk = 0
        · subst mz
          by_cases im : id = -1
          · subst im
            cases cb with
            | true =>
              by_cases t0 : top < 0
              · have t0_0 : ¬ 0 ≤ top := by omega
                by_cases nz : n = 0
                · subst nz
                  cases fa with
                  | some k0 =>
                    refine ⟨8, CI_of Tryz.func43 rfl 0 ?_, fun h => by simp at h⟩
                    simp (disch := omega) [Tryz.f43, lv43, hk, encIns, e1, e2, e3, e4, e5, e6, e7, e8, p1, p2, t0, t0_0, -getElem?_pos]
                  | none =>
                    cases ft with
                    | some k0 =>
                      refine ⟨7, CI_of Tryz.func43 rfl 0 ?_, fun h => by simp at h⟩
                      simp (disch := omega) [Tryz.f43, lv43, hk, encIns, e1, e2, e3, e4, e5, e6, e7, e8, p1, p2, t0, t0_0, -getElem?_pos]
                    | none =>
                      by_cases o10 : op = 10
                      · subst o10
                        refine ⟨pc, CI_of Tryz.func43 rfl 0 ?_, fun _ => hgood (by omega) (by omega) rfl (by omega) (by omega) rfl rfl rfl (by omega) (by omega)⟩
                        simp (disch := omega) [Tryz.f43, lv43, hk, encIns, e1, e2, e3, e4, e5, e6, e7, e8, p1, p2, t0, t0_0, -getElem?_pos]
                      · have o10_0 : ((op) == (10)) = false := by simp; omega
                        by_cases o21 : op = 21
                        · subst o21
                          cases nb with
                          | true =>
                            refine ⟨0, CI_of Tryz.func43 rfl 0 ?_, fun _ => hgood (by omega) (by omega) rfl (by omega) (by omega) rfl rfl rfl (by omega) (by omega)⟩
                            simp (disch := omega) [Tryz.f43, lv43, hk, encIns, e1, e2, e3, e4, e5, e6, e7, e8, p1, p2, t0, t0_0, o10, o10_0, -getElem?_pos]
                          | false =>
                            refine ⟨4, CI_of Tryz.func43 rfl 0 ?_, fun h => by simp at h⟩
                            simp (disch := omega) [Tryz.f43, lv43, hk, encIns, e1, e2, e3, e4, e5, e6, e7, e8, p1, p2, t0, t0_0, o10, o10_0, -getElem?_pos]
                        · have o21_0 : ((op) == (21)) = false := by simp; omega
                          have o21_1 : ((op) != (21)) = true := by simp; omega
                          by_cases gn : name = []
                          · subst gn
                            refine ⟨0, CI_of Tryz.func43 rfl 0 ?_, fun _ => hgood (by omega) (by omega) rfl (by omega) (by omega) rfl rfl rfl (by omega) (by omega)⟩
                            simp (disch := omega) [Tryz.f43, lv43, hk, encIns, e1, e2, e3, e4, e5, e6, e7, e8, p1, p2, t0, t0_0, o10, o10_0, o21, o21_0, o21_1, -getElem?_pos]
                          · have gn_0 : (name != []) = true := by simp [gn]
                            have gn_1 : name.isEmpty = false := by simp [gn]
                            refine ⟨4, CI_of Tryz.func43 rfl 0 ?_, fun h => by simp at h⟩
                            simp (disch := omega) [Tryz.f43, lv43, hk, encIns, e1, e2, e3, e4, e5, e6, e7, e8, p1, p2, t0, t0_0, o10, o10_0, o21, o21_0, o21_1, gn, gn_0, gn_1, -getElem?_pos]
                · have nz_0 : ((n) != (0)) = true := by simp; omega
                  refine ⟨18, CI_of Tryz.func43 rfl 0 ?_, fun h => by simp at h⟩
                  simp (disch := omega) [Tryz.f43, lv43, hk, encIns, e1, e2, e3, e4, e5, e6, e7, e8, p1, p2, t0, t0_0, nz, nz_0, -getElem?_pos]
              · have t0_0 : 0 ≤ top := by omega
                by_cases tn : top < n
                · have _u := 0
                  refine ⟨18, CI_of Tryz.func43 rfl 0 ?_, fun h => by simp at h⟩
                  simp (disch := omega) [Tryz.f43, lv43, hk, encIns, e1, e2, e3, e4, e5, e6, e7, e8, p1, p2, t0, t0_0, tn, -getElem?_pos]
                · have _u := 0
                  by_cases n0 : n < 0
                  · have _u := 0
                    by_cases o1 : op = 1
                    · subst o1
                      cases fa with
                      | some k0 =>
                        refine ⟨8, CI_of Tryz.func43 rfl 0 ?_, fun h => by simp at h⟩
                        simp (disch := omega) [Tryz.f43, lv43, hk, encIns, e1, e2, e3, e4, e5, e6, e7, e8, p1, p2, t0, t0_0, tn, n0, -getElem?_pos]
                      | none =>
                        cases ft with
                        | some k0 =>
                          refine ⟨7, CI_of Tryz.func43 rfl 0 ?_, fun h => by simp at h⟩
                          simp (disch := omega) [Tryz.f43, lv43, hk, encIns, e1, e2, e3, e4, e5, e6, e7, e8, p1, p2, t0, t0_0, tn, n0, -getElem?_pos]
                        | none =>
                          by_cases gn : name = []
                          · subst gn
                            refine ⟨0, CI_of Tryz.func43 rfl 0 ?_, fun _ => hgood (by omega) (by omega) rfl (by omega) (by omega) rfl rfl rfl (by omega) (by omega)⟩
                            simp (disch := omega) [Tryz.f43, lv43, hk, encIns, e1, e2, e3, e4, e5, e6, e7, e8, p1, p2, t0, t0_0, tn, n0, -getElem?_pos]
                          · have gn_0 : (name != []) = true := by simp [gn]
                            have gn_1 : name.isEmpty = false := by simp [gn]
                            refine ⟨4, CI_of Tryz.func43 rfl 0 ?_, fun h => by simp at h⟩
                            simp (disch := omega) [Tryz.f43, lv43, hk, encIns, e1, e2, e3, e4, e5, e6, e7, e8, p1, p2, t0, t0_0, tn, n0, gn, gn_0, gn_1, -getElem?_pos]
                    · have o1_0 : ((op) != (1)) = true := by simp; omega
                      refine ⟨18, CI_of Tryz.func43 rfl 0 ?_, fun h => by simp at h⟩
                      simp (disch := omega) [Tryz.f43, lv43, hk, encIns, e1, e2, e3, e4, e5, e6, e7, e8, p1, p2, t0, t0_0, tn, n0, o1, o1_0, -getElem?_pos]
                  · have _u := 0
                    cases fa with
                    | some k0 =>
                      refine ⟨8, CI_of Tryz.func43 rfl 0 ?_, fun h => by simp at h⟩
                      simp (disch := omega) [Tryz.f43, lv43, hk, encIns, e1, e2, e3, e4, e5, e6, e7, e8, p1, p2, t0, t0_0, tn, n0, -getElem?_pos]
                    | none =>
                      cases ft with
                      | some k0 =>
                        refine ⟨7, CI_of Tryz.func43 rfl 0 ?_, fun h => by simp at h⟩
                        simp (disch := omega) [Tryz.f43, lv43, hk, encIns, e1, e2, e3, e4, e5, e6, e7, e8, p1, p2, t0, t0_0, tn, n0, -getElem?_pos]
                      | none =>
                        by_cases o10 : op = 10
                        · subst o10
                          refine ⟨pc, CI_of Tryz.func43 rfl 0 ?_, fun _ => hgood (by omega) (by omega) rfl (by omega) (by omega) rfl rfl rfl (by omega) (by omega)⟩
                          simp (disch := omega) [Tryz.f43, lv43, hk, encIns, e1, e2, e3, e4, e5, e6, e7, e8, p1, p2, t0, t0_0, tn, n0, -getElem?_pos]
                        · have o10_0 : ((op) == (10)) = false := by simp; omega
                          by_cases o21 : op = 21
                          · subst o21
                            cases nb with
                            | true =>
                              refine ⟨0, CI_of Tryz.func43 rfl 0 ?_, fun _ => hgood (by omega) (by omega) rfl (by omega) (by omega) rfl rfl rfl (by omega) (by omega)⟩
                              simp (disch := omega) [Tryz.f43, lv43, hk, encIns, e1, e2, e3, e4, e5, e6, e7, e8, p1, p2, t0, t0_0, tn, n0, o10, o10_0, -getElem?_pos]
                            | false =>
                              refine ⟨4, CI_of Tryz.func43 rfl 0 ?_, fun h => by simp at h⟩
                              simp (disch := omega) [Tryz.f43, lv43, hk, encIns, e1, e2, e3, e4, e5, e6, e7, e8, p1, p2, t0, t0_0, tn, n0, o10, o10_0, -getElem?_pos]
                          · have o21_0 : ((op) == (21)) = false := by simp; omega
                            have o21_1 : ((op) != (21)) = true := by simp; omega
                            by_cases gn : name = []
                            · subst gn
                              refine ⟨0, CI_of Tryz.func43 rfl 0 ?_, fun _ => hgood (by omega) (by omega) rfl (by omega) (by omega) rfl rfl rfl (by omega) (by omega)⟩
                              simp (disch := omega) [Tryz.f43, lv43, hk, encIns, e1, e2, e3, e4, e5, e6, e7, e8, p1, p2, t0, t0_0, tn, n0, o10, o10_0, o21, o21_0, o21_1, -getElem?_pos]
                            · have gn_0 : (name != []) = true := by simp [gn]
                              have gn_1 : name.isEmpty = false := by simp [gn]
                              refine ⟨4, CI_of Tryz.func43 rfl 0 ?_, fun h => by simp at h⟩
                              simp (disch := omega) [Tryz.f43, lv43, hk, encIns, e1, e2, e3, e4, e5, e6, e7, e8, p1, p2, t0, t0_0, tn, n0, o10, o10_0, o21, o21_0, o21_1, gn, gn_0, gn_1, -getElem?_pos]
            | false =>
              refine ⟨13, CI_of Tryz.func43 rfl 0 ?_, fun h => by simp at h⟩
              simp (disch := omega) [Tryz.f43, lv43, hk, encIns, e1, e2, e3, e4, e5, e6, e7, e8, p1, p2, -getElem?_pos]
          · have im_0 : ((id) != (-1)) = true := by simp; omega
            refine ⟨8, CI_of Tryz.func43 rfl 0 ?_, fun h => by simp at h⟩
            simp (disch := omega) [Tryz.f43, lv43, hk, encIns, e1, e2, e3, e4, e5, e6, e7, e8, p1, p2, im, im_0, -getElem?_pos]
        · have mz_0 : ((mk) != (0)) = true := by simp; omega
          by_cases i0 : id < 0
          · have _u := 0
            refine ⟨8, CI_of Tryz.func43 rfl 0 ?_, fun h => by simp at h⟩
            simp (disch := omega) [Tryz.f43, lv43, hk, encIns, e1, e2, e3, e4, e5, e6, e7, e8, p1, p2, mz, mz_0, i0, -getElem?_pos]
          · have _u := 0
            by_cases i1 : 1048576 < id
            · have _u := 0
              refine ⟨8, CI_of Tryz.func43 rfl 0 ?_, fun h => by simp at h⟩
              simp (disch := omega) [Tryz.f43, lv43, hk, encIns, e1, e2, e3, e4, e5, e6, e7, e8, p1, p2, mz, mz_0, i0, i1, -getElem?_pos]
            · have _u := 0
              cases cb with
              | true =>
                by_cases t0 : top < 0
                · have t0_0 : ¬ 0 ≤ top := by omega
                  by_cases nz : n = 0
                  · subst nz
                    cases fa with
                    | some k0 =>
                      refine ⟨8, CI_of Tryz.func43 rfl 0 ?_, fun h => by simp at h⟩
                      simp (disch := omega) [Tryz.f43, lv43, hk, encIns, e1, e2, e3, e4, e5, e6, e7, e8, p1, p2, mz, mz_0, i0, i1, t0, t0_0, -getElem?_pos]
                    | none =>
                      cases ft with
                      | some k0 =>
                        refine ⟨7, CI_of Tryz.func43 rfl 0 ?_, fun h => by simp at h⟩
                        simp (disch := omega) [Tryz.f43, lv43, hk, encIns, e1, e2, e3, e4, e5, e6, e7, e8, p1, p2, mz, mz_0, i0, i1, t0, t0_0, -getElem?_pos]
                      | none =>
                        by_cases o10 : op = 10
                        · subst o10
                          refine ⟨pc, CI_of Tryz.func43 rfl 0 ?_, fun _ => hgood (by omega) (by omega) rfl (by omega) (by omega) rfl rfl rfl (by omega) (by omega)⟩
                          simp (disch := omega) [Tryz.f43, lv43, hk, encIns, e1, e2, e3, e4, e5, e6, e7, e8, p1, p2, mz, mz_0, i0, i1, t0, t0_0, -getElem?_pos]
                        · have o10_0 : ((op) == (10)) = false := by simp; omega
                          by_cases o21 : op = 21
                          · subst o21
                            cases nb with
                            | true =>
                              refine ⟨0, CI_of Tryz.func43 rfl 0 ?_, fun _ => hgood (by omega) (by omega) rfl (by omega) (by omega) rfl rfl rfl (by omega) (by omega)⟩
                              simp (disch := omega) [Tryz.f43, lv43, hk, encIns, e1, e2, e3, e4, e5, e6, e7, e8, p1, p2, mz, mz_0, i0, i1, t0, t0_0, o10, o10_0, -getElem?_pos]
                            | false =>
                              refine ⟨4, CI_of Tryz.func43 rfl 0 ?_, fun h => by simp at h⟩
                              simp (disch := omega) [Tryz.f43, lv43, hk, encIns, e1, e2, e3, e4, e5, e6, e7, e8, p1, p2, mz, mz_0, i0, i1, t0, t0_0, o10, o10_0, -getElem?_pos]
                          · have o21_0 : ((op) == (21)) = false := by simp; omega
                            have o21_1 : ((op) != (21)) = true := by simp; omega
                            by_cases gn : name = []
                            · subst gn
                              refine ⟨0, CI_of Tryz.func43 rfl 0 ?_, fun _ => hgood (by omega) (by omega) rfl (by omega) (by omega) rfl rfl rfl (by omega) (by omega)⟩
                              simp (disch := omega) [Tryz.f43, lv43, hk, encIns, e1, e2, e3, e4, e5, e6, e7, e8, p1, p2, mz, mz_0, i0, i1, t0, t0_0, o10, o10_0, o21, o21_0, o21_1, -getElem?_pos]
                            · have gn_0 : (name != []) = true := by simp [gn]
                              have gn_1 : name.isEmpty = false := by simp [gn]
                              refine ⟨4, CI_of Tryz.func43 rfl 0 ?_, fun h => by simp at h⟩
                              simp (disch := omega) [Tryz.f43, lv43, hk, encIns, e1, e2, e3, e4, e5, e6, e7, e8, p1, p2, mz, mz_0, i0, i1, t0, t0_0, o10, o10_0, o21, o21_0, o21_1, gn, gn_0, gn_1, -getElem?_pos]
                  · have nz_0 : ((n) != (0)) = true := by simp; omega
                    refine ⟨18, CI_of Tryz.func43 rfl 0 ?_, fun h => by simp at h⟩
                    simp (disch := omega) [Tryz.f43, lv43, hk, encIns, e1, e2, e3, e4, e5, e6, e7, e8, p1, p2, mz, mz_0, i0, i1, t0, t0_0, nz, nz_0, -getElem?_pos]
                · have t0_0 : 0 ≤ top := by omega
                  by_cases tn : top < n
                  · have _u := 0
                    refine ⟨18, CI_of Tryz.func43 rfl 0 ?_, fun h => by simp at h⟩
                    simp (disch := omega) [Tryz.f43, lv43, hk, encIns, e1, e2, e3, e4, e5, e6, e7, e8, p1, p2, mz, mz_0, i0, i1, t0, t0_0, tn, -getElem?_pos]
                  · have _u := 0
                    by_cases n0 : n < 0
                    · have _u := 0
                      by_cases o1 : op = 1
                      · subst o1
                        cases fa with
                        | some k0 =>
                          refine ⟨8, CI_of Tryz.func43 rfl 0 ?_, fun h => by simp at h⟩
                          simp (disch := omega) [Tryz.f43, lv43, hk, encIns, e1, e2, e3, e4, e5, e6, e7, e8, p1, p2, mz, mz_0, i0, i1, t0, t0_0, tn, n0, -getElem?_pos]
                        | none =>
                          cases ft with
                          | some k0 =>
                            refine ⟨7, CI_of Tryz.func43 rfl 0 ?_, fun h => by simp at h⟩
                            simp (disch := omega) [Tryz.f43, lv43, hk, encIns, e1, e2, e3, e4, e5, e6, e7, e8, p1, p2, mz, mz_0, i0, i1, t0, t0_0, tn, n0, -getElem?_pos]
                          | none =>
                            by_cases gn : name = []
                            · subst gn
                              refine ⟨0, CI_of Tryz.func43 rfl 0 ?_, fun _ => hgood (by omega) (by omega) rfl (by omega) (by omega) rfl rfl rfl (by omega) (by omega)⟩
                              simp (disch := omega) [Tryz.f43, lv43, hk, encIns, e1, e2, e3, e4, e5, e6, e7, e8, p1, p2, mz, mz_0, i0, i1, t0, t0_0, tn, n0, -getElem?_pos]
                            · have gn_0 : (name != []) = true := by simp [gn]
                              have gn_1 : name.isEmpty = false := by simp [gn]
                              refine ⟨4, CI_of Tryz.func43 rfl 0 ?_, fun h => by simp at h⟩
                              simp (disch := omega) [Tryz.f43, lv43, hk, encIns, e1, e2, e3, e4, e5, e6, e7, e8, p1, p2, mz, mz_0, i0, i1, t0, t0_0, tn, n0, gn, gn_0, gn_1, -getElem?_pos]
                      · have o1_0 : ((op) != (1)) = true := by simp; omega
                        refine ⟨18, CI_of Tryz.func43 rfl 0 ?_, fun h => by simp at h⟩
                        simp (disch := omega) [Tryz.f43, lv43, hk, encIns, e1, e2, e3, e4, e5, e6, e7, e8, p1, p2, mz, mz_0, i0, i1, t0, t0_0, tn, n0, o1, o1_0, -getElem?_pos]
                    · have _u := 0
                      cases fa with
                      | some k0 =>
                        refine ⟨8, CI_of Tryz.func43 rfl 0 ?_, fun h => by simp at h⟩
                        simp (disch := omega) [Tryz.f43, lv43, hk, encIns, e1, e2, e3, e4, e5, e6, e7, e8, p1, p2, mz, mz_0, i0, i1, t0, t0_0, tn, n0, -getElem?_pos]
                      | none =>
                        cases ft with
                        | some k0 =>
                          refine ⟨7, CI_of Tryz.func43 rfl 0 ?_, fun h => by simp at h⟩
                          simp (disch := omega) [Tryz.f43, lv43, hk, encIns, e1, e2, e3, e4, e5, e6, e7, e8, p1, p2, mz, mz_0, i0, i1, t0, t0_0, tn, n0, -getElem?_pos]
                        | none =>
                          by_cases o10 : op = 10
                          · subst o10
                            refine ⟨pc, CI_of Tryz.func43 rfl 0 ?_, fun _ => hgood (by omega) (by omega) rfl (by omega) (by omega) rfl rfl rfl (by omega) (by omega)⟩
                            simp (disch := omega) [Tryz.f43, lv43, hk, encIns, e1, e2, e3, e4, e5, e6, e7, e8, p1, p2, mz, mz_0, i0, i1, t0, t0_0, tn, n0, -getElem?_pos]
                          · have o10_0 : ((op) == (10)) = false := by simp; omega
                            by_cases o21 : op = 21
                            · subst o21
                              cases nb with
                              | true =>
                                refine ⟨0, CI_of Tryz.func43 rfl 0 ?_, fun _ => hgood (by omega) (by omega) rfl (by omega) (by omega) rfl rfl rfl (by omega) (by omega)⟩
                                simp (disch := omega) [Tryz.f43, lv43, hk, encIns, e1, e2, e3, e4, e5, e6, e7, e8, p1, p2, mz, mz_0, i0, i1, t0, t0_0, tn, n0, o10, o10_0, -getElem?_pos]
                              | false =>
                                refine ⟨4, CI_of Tryz.func43 rfl 0 ?_, fun h => by simp at h⟩
                                simp (disch := omega) [Tryz.f43, lv43, hk, encIns, e1, e2, e3, e4, e5, e6, e7, e8, p1, p2, mz, mz_0, i0, i1, t0, t0_0, tn, n0, o10, o10_0, -getElem?_pos]
                            · have o21_0 : ((op) == (21)) = false := by simp; omega
                              have o21_1 : ((op) != (21)) = true := by simp; omega
                              by_cases gn : name = []
                              · subst gn
                                refine ⟨0, CI_of Tryz.func43 rfl 0 ?_, fun _ => hgood (by omega) (by omega) rfl (by omega) (by omega) rfl rfl rfl (by omega) (by omega)⟩
                                simp (disch := omega) [Tryz.f43, lv43, hk, encIns, e1, e2, e3, e4, e5, e6, e7, e8, p1, p2, mz, mz_0, i0, i1, t0, t0_0, tn, n0, o10, o10_0, o21, o21_0, o21_1, -getElem?_pos]
                              · have gn_0 : (name != []) = true := by simp [gn]
                                have gn_1 : name.isEmpty = false := by simp [gn]
                                refine ⟨4, CI_of Tryz.func43 rfl 0 ?_, fun h => by simp at h⟩
                                simp (disch := omega) [Tryz.f43, lv43, hk, encIns, e1, e2, e3, e4, e5, e6, e7, e8, p1, p2, mz, mz_0, i0, i1, t0, t0_0, tn, n0, o10, o10_0, o21, o21_0, o21_1, gn, gn_0, gn_1, -getElem?_pos]
              | false =>
                refine ⟨13, CI_of Tryz.func43 rfl 0 ?_, fun h => by simp at h⟩
                simp (disch := omega) [Tryz.f43, lv43, hk, encIns, e1, e2, e3, e4, e5, e6, e7, e8, p1, p2, mz, mz_0, i0, i1, -getElem?_pos]
      | false =>
        refine ⟨2, CI_of Tryz.func43 rfl 0 ?_, fun h => by simp at h⟩
        simp (disch := omega) [Tryz.f43, lv43, hk, encIns, e1, e2, e3, e4, e5, e6, e7, e8, p1, p2, -getElem?_pos]
end Go.Proofs.YtkbdhjfjbkmkcaaGreat.Abs

/- Whether a program's functions and instructions may be, as the document tells it. -/
set_option linter.unusedSimpArgs false
set_option linter.unusedVariables false
namespace Go.Proofs.YtkbdhjfjbkmkcaaGreat.Abs
open Go Go.RowKit Go.Proofs

structure HeadW (f : Fn) : Prop where
  params : f.params.length ≤ 8
  blocks : f.blocks.length ≤ 256
  name : nameB f.name = true
  ret : 0 ≤ f.ret ∧ f.ret ≤ 2
  each : ∀ a, a ∈ f.params → 1 ≤ a ∧ a ≤ 2

def badP (_ : Nat) (a : Int) : Bool := decide (a < 1) || decide (2 < a)
def hdS (h : Heap) (f : Fn) (k : Nat) (c : Int) : St := ⟨[(2, .one (.ptr h.length 1 0 0)), (5, I (k : Nat)), (4, I c)], h ++ [some (.row 5 [encFn f])], []⟩
theorem hd_loop (h : Heap) (f : Fn) (hf : f.Ok) : lpK 42 Tryz.f42 53 0 h (hdS h f 0 0) = some (match findI badP 0 f.params with | some i => (.ret, hdS h f i 9) | none => (.exit 0, hdS h f f.params.length 0)) := by
  have h1 := hf.params
  refine loop_search f.params badP (fun k => hdS h f k 0) (fun i => (.ret, hdS h f i 9)) (.exit 0, hdS h f f.params.length 0) ?_ ?_ ?_
  · intro i a ha hi hp _
    have hiI : ((i : Nat) : Int) < ((f.params.length : Nat) : Int) := by omega
    simp only [badP, Bool.or_eq_false_iff, decide_eq_false_iff_not] at hp
    obtain ⟨p1, p2⟩ := hp
    simp (disch := omega) [round_eq, hdS, encFn, Tryz.f42, lv42, ha, hi, hiI, p1, p2, wrap_i64, -getElem?_pos]
  · intro i a ha hi hp _
    have hiI : ((i : Nat) : Int) < ((f.params.length : Nat) : Int) := by omega
    simp only [badP, Bool.or_eq_true, decide_eq_true_iff] at hp
    by_cases p1 : a < 1
    · simp (disch := omega) [round_eq, hdS, encFn, Tryz.f42, lv42, ha, hi, hiI, p1, wrap_i64, -getElem?_pos]
    · have p2 := hp.resolve_left p1
      simp (disch := omega) [round_eq, hdS, encFn, Tryz.f42, lv42, ha, hi, hiI, p1, p2, wrap_i64, -getElem?_pos]
  · intro _
    simp (disch := omega) [round_eq, hdS, encFn, Tryz.f42, lv42, -getElem?_pos]
theorem head7 (h : Heap) (f : Fn) (hf : f.Ok) (i : Nat) : ∃ c, CX 42 [.agg (encFn f), I (i : Nat)] h = some (I c, h, []) ∧ (c = 0 → i < 32 ∧ HeadW f) := by
  have hk : cfg.keep 42 = 0 := rfl
  have e1 := fun h => name2 h f.name
  have e2 := hd_loop h f hf
  have hP := hf.params
  have hB := hf.blocks
  have hgood : i < 32 → f.params.length ≤ 8 → f.blocks.length ≤ 256 → nameB f.name = true → 0 ≤ f.ret → f.ret ≤ 2 → findI badP 0 f.params = none → i < 32 ∧ HeadW f := fun g1 g2 g3 g4 g5 g6 g7 => by
    refine ⟨g1, g2, g3, g4, ⟨g5, g6⟩, fun a ha => ?_⟩
    obtain ⟨i, hi⟩ := List.getElem?_of_mem ha
    have := findI_none.1 g7 i a hi
    simp only [badP, Bool.or_eq_false_iff, decide_eq_false_iff_not] at this
    omega
  obtain ⟨name, params, ret, blocks, at_⟩ := f
  simp only [encFn] at e1 e2 hgood hP hB ⊢
  simp [hdS, encFn, lpK, lv42, Tryz.f42] at e2
  generalize findI badP 0 params = fp at *
  generalize nameB name = nb at *
  by_cases a1 : 32 ≤ i
  · have a1_0 : (32 : Int) ≤ ((i : Nat) : Int) := by omega
    refine ⟨6, CI_of Tryz.func42 rfl 0 ?_, fun h => by simp at h⟩
    simp (disch := omega) [Tryz.f42, lv42, hk, encFn, e1, e2, a1, a1_0, -getElem?_pos]
  · have a1_0 : ¬ (32 : Int) ≤ ((i : Nat) : Int) := by omega
    by_cases a2 : 8 < params.length
    · have a2_0 : (8 : Int) < ((params.length : Nat) : Int) := by omega
      refine ⟨6, CI_of Tryz.func42 rfl 0 ?_, fun h => by simp at h⟩
      simp (disch := omega) [Tryz.f42, lv42, hk, encFn, e1, e2, a1, a1_0, a2, a2_0, -getElem?_pos]
    · have a2_0 : ¬ (8 : Int) < ((params.length : Nat) : Int) := by omega
      by_cases a3 : 256 < blocks.length
      · have a3_0 : (256 : Int) < ((blocks.length : Nat) : Int) := by omega
        refine ⟨6, CI_of Tryz.func42 rfl 0 ?_, fun h => by simp at h⟩
        simp (disch := omega) [Tryz.f42, lv42, hk, encFn, e1, e2, a1, a1_0, a2, a2_0, a3, a3_0, -getElem?_pos]
      · have a3_0 : ¬ (256 : Int) < ((blocks.length : Nat) : Int) := by omega
        cases nb with
        | true =>
          by_cases a4 : ret < 0
          · have _u := 0
            refine ⟨9, CI_of Tryz.func42 rfl 0 ?_, fun h => by simp at h⟩
            simp (disch := omega) [Tryz.f42, lv42, hk, encFn, e1, e2, a1, a1_0, a2, a2_0, a3, a3_0, a4, -getElem?_pos]
          · have _u := 0
            by_cases a5 : 2 < ret
            · have _u := 0
              refine ⟨9, CI_of Tryz.func42 rfl 0 ?_, fun h => by simp at h⟩
              simp (disch := omega) [Tryz.f42, lv42, hk, encFn, e1, e2, a1, a1_0, a2, a2_0, a3, a3_0, a4, a5, -getElem?_pos]
            · have _u := 0
              cases fp with
              | some k0 =>
                refine ⟨9, CI_of Tryz.func42 rfl 0 ?_, fun h => by simp at h⟩
                simp (disch := omega) [Tryz.f42, lv42, hk, encFn, e1, e2, a1, a1_0, a2, a2_0, a3, a3_0, a4, a5, -getElem?_pos]
              | none =>
                refine ⟨0, CI_of Tryz.func42 rfl 0 ?_, fun _ => hgood (by omega) (by omega) (by omega) rfl (by omega) (by omega) rfl⟩
                simp (disch := omega) [Tryz.f42, lv42, hk, encFn, e1, e2, a1, a1_0, a2, a2_0, a3, a3_0, a4, a5, -getElem?_pos]
        | false =>
          refine ⟨4, CI_of Tryz.func42 rfl 0 ?_, fun h => by simp at h⟩
          simp (disch := omega) [Tryz.f42, lv42, hk, encFn, e1, e2, a1, a1_0, a2, a2_0, a3, a3_0, -getElem?_pos]

/-! Programs. -/
def fnsOf (p : List Fn) : List (List Leaf) := p.map encFn
def encProg (p : List Fn) : List Leaf := [.isl (fnsOf p)]
@[simp] theorem fnsOf_length (p : List Fn) : (fnsOf p).length = p.length := by simp [fnsOf]
@[simp] theorem fnsOf_get (p : List Fn) (i : Nat) : (fnsOf p)[i]? = (p[i]?).map encFn := by simp [fnsOf]
@[simp] theorem fnsOf_plain (p : List Fn) : plainR (fnsOf p) = true := plainR_map (fun _ => rfl) p
@[simp] theorem fnsOf_tree (p : List Fn) : treeR (fnsOf p) = true := treeR_map (fun _ => rfl) p
structure POk (p : List Fn) : Prop where
  fit : Fit p
  each : ∀ f, f ∈ p → f.Ok

def whS (h : Heap) (p : List Fn) (i : Nat) (f : Option Fn) (v7 v8 : V) (n : Nat) (c a : Int) : St :=
  ⟨[(4, I (i : Nat)), (1, .one (.ptr h.length 1 0 0)), (5, match f with | none => .junk | some _ => .one (.ptr (h.length + 1) 1 0 0)), (2, .one (.ptr (h.length + 2) 1 0 0)), (7, v7), (8, v8), (3, I (n : Nat)), (1005, .junk), (1007, .junk), (1008, .junk)],
   h ++ [some (.row 1 [encProg p]), f.map fun f => .row 5 [encFn f], some (.row 2 [[.int .i64 c, .int .i64 a]])], []⟩

theorem wh_in (h : Heap) (p : List Fn) (i : Nat) (f : Fn) (hf : f.Ok) (k : Nat) (l : List Ins) (hl : f.blocks[k]? = some l) (n : Nat) (hn : n ≤ 4096) :
    ∃ r, lpK 24 Tryz.f24 68 2 h (whS h p i (some f) (I (k : Nat)) (I (0 : Nat)) n 0 0) = some r ∧ ((∃ (j n' : Nat) (c : Int), r = (.ret, whS h p i (some f) (I (k : Nat)) (I (j : Nat)) n' c i) ∧ c ≠ 0) ∨
      (r = (.exit 4, whS h p i (some f) (I (k : Nat)) (I (l.length : Nat)) (n + l.length) 0 0) ∧ (∀ x, x ∈ l → InsW x) ∧ n + l.length ≤ 4096)) := by
  have hkb := (List.getElem?_eq_some_iff.1 hl).1
  have hlm := List.mem_of_getElem? hl
  have hfl := hf.code l hlm
  have key := loop_rel (P := Tryz.prog) (C := cfg) (sc := runScope Tryz.prog cfg 68 h.length (cfg.live 24) 0) (N := 68) (n0 := h.length) (K := cfg.live 24) (c := loopAt Tryz.f24 2)
    (fun j : Nat => whS h p i (some f) (I (k : Nat)) (I (j : Nat)) (n + j) 0 0) (fun j => j ≤ l.length ∧ n + j ≤ 4096 ∧ ∀ x, x ∈ l.take j → InsW x) (fun j => l.length - j)
    (fun _ r => (∃ (j n' : Nat) (c : Int), r = (.ret, whS h p i (some f) (I (k : Nat)) (I (j : Nat)) n' c i) ∧ c ≠ 0) ∨
      (r = (.exit 4, whS h p i (some f) (I (k : Nat)) (I (l.length : Nat)) (n + l.length) 0 0) ∧ (∀ x, x ∈ l → InsW x) ∧ n + l.length ≤ 4096)) ?_ 0 ⟨Nat.zero_le _, by omega, fun x hx => by simp at hx⟩
  · exact key
  rintro j ⟨hj, hnj, hall⟩
  rcases Nat.lt_or_ge j l.length with hlt | hge
  · have hltI : ((j : Nat) : Int) < ((l.length : Nat) : Int) := by omega
    obtain ⟨x, hx⟩ : ∃ x, l[j]? = some x := ⟨_, List.getElem?_eq_getElem hlt⟩
    obtain ⟨c, e, hc⟩ := check7 [] x (hf.each l hlm x (List.mem_of_getElem? hx))
    have hw : IntKind.i64.wrap (((n : Nat) : Int) + ((j : Nat) : Int) + 1) = ((n : Nat) : Int) + ((j : Nat) : Int) + 1 := wrap_i64 (by omega) (by omega)
    simp [encIns] at e
    by_cases h4 : 4096 < n + j + 1
    · have h4I : (4096 : Int) < ((n : Nat) : Int) + ((j : Nat) : Int) + 1 := by omega
      refine .inr ⟨(.ret, whS h p i (some f) (I (k : Nat)) (I (j : Nat)) (n + j + 1) 6 i), ?_, nofun, .inl ⟨j, n + j + 1, 6, rfl, by omega⟩⟩
      simp (disch := omega) [round_eq, whS, encFn, encProg, Tryz.f24, lv24, hl, hkb, hx, hlt, hltI, h4, h4I, hw, wrap_i64, -getElem?_pos]
    · have h4I : ¬ (4096 : Int) < ((n : Nat) : Int) + ((j : Nat) : Int) + 1 := by omega
      have h4J : ¬ (4096 : Int) < ((n : Nat) : Int) + (((j : Nat) : Int) + 1) := by omega
      by_cases hc0 : c = 0
      · subst hc0
        refine .inl ⟨j + 1, ?_, ⟨hlt, by omega, fun y hy => ?_⟩, by omega, fun r h => h⟩
        · simp (disch := omega) [round_eq, whS, encFn, encProg, encIns, Tryz.f24, lv24, hl, hkb, hx, hlt, hltI, h4, h4I, h4J, hw, e, wrap_i64, Int.add_assoc, -getElem?_pos]
        · rw [List.take_add_one, hx] at hy
          rcases List.mem_append.1 hy with hy | hy
          · exact hall y hy
          · have : y = x := by simpa using hy
            rw [this]; exact hc rfl
      · have hcB : (c != 0) = true := by simp [hc0]
        refine .inr ⟨(.ret, whS h p i (some f) (I (k : Nat)) (I (j : Nat)) (n + j + 1) c i), ?_, nofun, .inl ⟨j, n + j + 1, c, rfl, hc0⟩⟩
        simp (disch := omega) [round_eq, whS, encFn, encProg, encIns, Tryz.f24, lv24, hl, hkb, hx, hlt, hltI, h4, h4I, h4J, hw, e, hc0, hcB, wrap_i64, Int.add_assoc, -getElem?_pos]
  · have : j = l.length := by omega
    subst this
    rw [List.take_length] at hall
    refine .inr ⟨_, ?_, ?_, .inr ⟨rfl, hall, hnj⟩⟩
    · simp (disch := omega) [round_eq, whS, encFn, encProg, Tryz.f24, lv24, hl, hkb, -getElem?_pos]
    · nofun

theorem wh_mid (h : Heap) (p : List Fn) (i : Nat) (f : Fn) (hf : f.Ok) (n : Nat) (hn : n ≤ 4096) :
    ∃ r, lpK 24 Tryz.f24 68 1 h (whS h p i (some f) (I (0 : Nat)) .junk n 0 0) = some r ∧ ((∃ (k j n' : Nat) (c : Int), r = (.ret, whS h p i (some f) (I (k : Nat)) (I (j : Nat)) n' c i) ∧ c ≠ 0) ∨
      (∃ n' : Nat, r = (.exit 2, whS h p i (some f) (I (f.blocks.length : Nat)) .junk n' 0 0) ∧ (∀ l, l ∈ f.blocks → l.length ≤ 4096 ∧ ∀ x, x ∈ l → InsW x) ∧ n' ≤ 4096)) := by
  have hfb := hf.blocks
  have key := loop_rel (P := Tryz.prog) (C := cfg) (sc := runScope Tryz.prog cfg 68 h.length (cfg.live 24) 0) (N := 68) (n0 := h.length) (K := cfg.live 24) (c := loopAt Tryz.f24 1)
    (fun s : Nat × Nat => whS h p i (some f) (I (s.1 : Nat)) .junk s.2 0 0) (fun s => s.1 ≤ f.blocks.length ∧ s.2 ≤ 4096 ∧ ∀ l, l ∈ f.blocks.take s.1 → l.length ≤ 4096 ∧ ∀ x, x ∈ l → InsW x) (fun s => f.blocks.length - s.1)
    (fun _ r => (∃ (k j n' : Nat) (c : Int), r = (.ret, whS h p i (some f) (I (k : Nat)) (I (j : Nat)) n' c i) ∧ c ≠ 0) ∨
      (∃ n' : Nat, r = (.exit 2, whS h p i (some f) (I (f.blocks.length : Nat)) .junk n' 0 0) ∧ (∀ l, l ∈ f.blocks → l.length ≤ 4096 ∧ ∀ x, x ∈ l → InsW x) ∧ n' ≤ 4096)) ?_ (0, n) ⟨Nat.zero_le _, hn, fun x hx => by simp at hx⟩
  · exact key
  rintro ⟨k, n⟩ ⟨hk, hnk, hall⟩
  simp only at hk hnk hall ⊢
  rcases Nat.lt_or_ge k f.blocks.length with hlt | hge
  · have hltI : ((k : Nat) : Int) < ((f.blocks.length : Nat) : Int) := by omega
    obtain ⟨l, hl⟩ : ∃ l, f.blocks[k]? = some l := ⟨_, List.getElem?_eq_getElem hlt⟩
    obtain ⟨r, e, hr⟩ := wh_in h p i f hf k l hl n hnk
    rcases hr with ⟨j, n', c, rfl, hc⟩ | ⟨rfl, hw, hn'⟩
    · simp [whS, encFn, encProg, lpK, lv24, Tryz.f24] at e
      refine .inr ⟨(.ret, whS h p i (some f) (I (k : Nat)) (I (j : Nat)) n' c i), ?_, nofun, .inl ⟨k, j, n', c, rfl, hc⟩⟩
      simp (disch := omega) [round_eq, whS, encFn, encProg, Tryz.f24, lv24, hlt, hltI, e, wrap_i64, -getElem?_pos]
    · simp [whS, encFn, encProg, lpK, lv24, Tryz.f24] at e
      refine .inl ⟨(k + 1, n + l.length), ?_, ⟨hlt, hn', fun y hy => ?_⟩, by simp only; omega, fun r h => h⟩
      · simp (disch := omega) [round_eq, whS, encFn, encProg, Tryz.f24, lv24, hlt, hltI, e, wrap_i64, -getElem?_pos]
      · simp only at hy
        rw [List.take_add_one, hl] at hy
        rcases List.mem_append.1 hy with hy | hy
        · exact hall y hy
        · have : y = l := by simpa using hy
          rw [this]; exact ⟨by omega, hw⟩
  · have : k = f.blocks.length := by omega
    subst this
    rw [List.take_length] at hall
    refine .inr ⟨(.exit 2, whS h p i (some f) (I (f.blocks.length : Nat)) .junk n 0 0), ?_, nofun, .inr ⟨n, rfl, hall, hnk⟩⟩
    simp (disch := omega) [round_eq, whS, encFn, encProg, Tryz.f24, lv24, -getElem?_pos]

def FnW (f : Fn) : Prop := HeadW f ∧ ∀ l, l ∈ f.blocks → l.length ≤ 4096 ∧ ∀ x, x ∈ l → InsW x
theorem wh_out (h : Heap) (p : List Fn) (hp : POk p) :
    ∃ r, lpK 24 Tryz.f24 68 0 h (whS h p 0 none .junk .junk 0 0 0) = some r ∧ ((∃ (i : Nat) (f : Option Fn) (v7 v8 : V) (n' : Nat) (c : Int), r = (.ret, whS h p i f v7 v8 n' c i) ∧ c ≠ 0 ∧ i < p.length) ∨
      (∃ n' : Nat, r = (.exit 0, whS h p p.length none .junk .junk n' 0 0) ∧ p.length ≤ 32 ∧ ∀ f, f ∈ p → FnW f)) := by
  have hpf := hp.fit
  have key := loop_rel (P := Tryz.prog) (C := cfg) (sc := runScope Tryz.prog cfg 68 h.length (cfg.live 24) 0) (N := 68) (n0 := h.length) (K := cfg.live 24) (c := loopAt Tryz.f24 0)
    (fun s : Nat × Nat => whS h p s.1 none .junk .junk s.2 0 0) (fun s => s.1 ≤ p.length ∧ s.1 ≤ 32 ∧ s.2 ≤ 4096 ∧ ∀ f, f ∈ p.take s.1 → FnW f) (fun s => p.length - s.1)
    (fun _ r => (∃ (i : Nat) (f : Option Fn) (v7 v8 : V) (n' : Nat) (c : Int), r = (.ret, whS h p i f v7 v8 n' c i) ∧ c ≠ 0 ∧ i < p.length) ∨
      (∃ n' : Nat, r = (.exit 0, whS h p p.length none .junk .junk n' 0 0) ∧ p.length ≤ 32 ∧ ∀ f, f ∈ p → FnW f)) ?_ (0, 0) ⟨Nat.zero_le _, by omega, by omega, fun x hx => by simp at hx⟩
  · exact key
  rintro ⟨i, n⟩ ⟨hi, hi32, hn, hall⟩
  simp only at hi hi32 hn hall ⊢
  rcases Nat.lt_or_ge i p.length with hlt | hge
  · have hltI : ((i : Nat) : Int) < ((p.length : Nat) : Int) := by omega
    obtain ⟨f, hfi⟩ : ∃ f, p[i]? = some f := ⟨_, List.getElem?_eq_getElem hlt⟩
    have hf := hp.each f (List.mem_of_getElem? hfi)
    obtain ⟨c, e1, hc⟩ := head7 [] f hf i
    simp [encFn] at e1
    by_cases hc0 : c = 0
    · subst hc0
      obtain ⟨hi31, hH⟩ := hc rfl
      obtain ⟨r, e, hr⟩ := wh_mid h p i f hf n hn
      rcases hr with ⟨k, j, n', c, rfl, hc⟩ | ⟨n', rfl, hw, hn'⟩
      · simp [whS, encFn, encProg, lpK, lv24, Tryz.f24] at e
        refine .inr ⟨(.ret, whS h p i (some f) (I (k : Nat)) (I (j : Nat)) n' c i), ?_, nofun, .inl ⟨i, some f, _, _, n', c, rfl, hc, hlt⟩⟩
        simp (disch := omega) [round_eq, whS, encFn, encProg, Tryz.f24, lv24, hlt, hltI, hfi, e1, e, wrap_i64, -getElem?_pos]
      · simp [whS, encFn, encProg, lpK, lv24, Tryz.f24] at e
        refine .inl ⟨(i + 1, n'), ?_, ⟨hlt, by omega, hn', fun y hy => ?_⟩, by simp only; omega, fun r h => h⟩
        · simp (disch := omega) [round_eq, whS, encFn, encProg, Tryz.f24, lv24, hlt, hltI, hfi, e1, e, wrap_i64, -getElem?_pos]
        · simp only at hy
          rw [List.take_add_one, hfi] at hy
          rcases List.mem_append.1 hy with hy | hy
          · exact hall y hy
          · have : y = f := by simpa using hy
            rw [this]; exact ⟨hH, hw⟩
    · have hcB : (c != 0) = true := by simp [hc0]
      refine .inr ⟨(.ret, whS h p i (some f) .junk .junk n c i), ?_, nofun, .inl ⟨i, some f, _, _, n, c, rfl, hc0, hlt⟩⟩
      simp (disch := omega) [round_eq, whS, encFn, encProg, Tryz.f24, lv24, hlt, hltI, hfi, e1, hc0, hcB, wrap_i64, -getElem?_pos]
  · have : i = p.length := by omega
    subst this
    rw [List.take_length] at hall
    refine .inr ⟨(.exit 0, whS h p p.length none .junk .junk n 0 0), ?_, nofun, .inr ⟨n, rfl, hi32, hall⟩⟩
    simp (disch := omega) [round_eq, whS, encFn, encProg, Tryz.f24, lv24, -getElem?_pos]

theorem whole7 (h : Heap) (p : List Fn) (hp : POk p) : ∃ c a : Int, CX 24 [.agg (encProg p)] h = some (.agg [.int .i64 c, .int .i64 a], h, []) ∧ (c = 0 → p.length ≤ 32 ∧ ∀ f, f ∈ p → FnW f) ∧ (c ≠ 0 → ∃ i : Nat, a = (i : Int) ∧ i < p.length) := by
  have hk : cfg.keep 24 = 0 := rfl
  obtain ⟨r, e, hr⟩ := wh_out h p hp
  rcases hr with ⟨i, f, v7, v8, n', c, rfl, hc, hi⟩ | ⟨n', rfl, h1, h2⟩
  · refine ⟨c, i, CI_of Tryz.func24 rfl 0 ?_, fun h => absurd h hc, fun _ => ⟨i, rfl, hi⟩⟩
    simp [whS, encProg, lpK, lv24, Tryz.f24] at e
    simp (disch := omega) [Tryz.f24, lv24, hk, encProg, e, -getElem?_pos]
  · refine ⟨0, 0, CI_of Tryz.func24 rfl 0 ?_, fun _ => ⟨h1, h2⟩, fun h => absurd rfl h⟩
    simp [whS, encProg, lpK, lv24, Tryz.f24] at e
    simp (disch := omega) [Tryz.f24, lv24, hk, encProg, e, -getElem?_pos]
end Go.Proofs.YtkbdhjfjbkmkcaaGreat.Abs

/- Who goes to each block, and in which order blocks are met, as the document tells it. -/
set_option linter.unusedSimpArgs false
set_option linter.unusedVariables false
namespace Go.Proofs.YtkbdhjfjbkmkcaaGreat.Abs
open Go Go.RowKit Go.Proofs

/-! Who goes to each block. -/
def prdB (ss : List (List Int)) (b k : Nat) : List Int := ((List.range k).filter fun j => (ss.getD j []).contains ((b : Nat) : Int)).map fun j => ((j : Nat) : Int)
@[simp] theorem prdB_zero (ss : List (List Int)) (b : Nat) : prdB ss b 0 = [] := by simp [prdB]
theorem prdB_next (ss : List (List Int)) (b k : Nat) : prdB ss b (k + 1) = if (ss.getD k []).contains ((b : Nat) : Int) then prdB ss b k ++ [(k : Int)] else prdB ss b k := by
  unfold prdB
  rw [List.range_succ, List.filter_append, List.map_append]
  cases h : (ss.getD k []).contains ((b : Nat) : Int) <;> simp only [List.filter_cons, List.filter_nil, h] <;> simp
theorem prdB_len (ss : List (List Int)) (b k : Nat) : (prdB ss b k).length ≤ k := by
  unfold prdB
  rw [List.length_map]
  exact Nat.le_trans (List.length_filter_le _ _) (by simp)
theorem prdB_mem {ss : List (List Int)} {b k : Nat} {p : Int} : p ∈ prdB ss b k ↔ 0 ≤ p ∧ p < k ∧ ((b : Nat) : Int) ∈ ss.getD p.toNat [] := by
  unfold prdB
  rw [List.mem_map]
  constructor
  · rintro ⟨j, h, rfl⟩
    obtain ⟨h1, h2⟩ := List.mem_filter.1 h
    have := List.mem_range.1 h1
    exact ⟨by omega, by omega, by simpa using h2⟩
  · rintro ⟨h1, h2, h3⟩
    refine ⟨p.toNat, List.mem_filter.2 ⟨List.mem_range.2 (by omega), by simpa using h3⟩, by omega⟩
theorem prdB_nodup (ss : List (List Int)) (b k : Nat) : (prdB ss b k).Nodup := by
  induction k with
  | zero => simp
  | succ k ih =>
    rw [prdB_next]
    split
    · rw [List.nodup_append]
      refine ⟨ih, by simp, fun x hx y hy => ?_⟩
      have := (prdB_mem.1 hx).2.1
      simp at hy
      omega
    · exact ih
def prd8 (n : Nat) (ss : List (List Int)) (k : Nat) : List (List Int) := (List.range k).map fun b => prdB ss b n
@[simp] theorem prd8_zero (n : Nat) (ss : List (List Int)) : prd8 n ss 0 = [] := by simp [prd8]
@[simp] theorem prd8_length (n : Nat) (ss : List (List Int)) (k : Nat) : (prd8 n ss k).length = k := by simp [prd8]
theorem prd8_next (n : Nat) (ss : List (List Int)) (k : Nat) : prd8 n ss k ++ [prdB ss k n] = prd8 n ss (k + 1) := by simp [prd8, List.range_succ]
theorem prd8_get (n : Nat) (ss : List (List Int)) (k b : Nat) (h : b < k) : (prd8 n ss k)[b]? = some (prdB ss b n) := by simp [prd8, h]

def slV (id : Nat) : Option (List Int) → V
  | none => .junk
  | some l => .one (.sl id 1 l.length 0 l.length)
def slO : Option (List Int) → Option AO
  | none => none
  | some l => some (.row 1 (intsOf l))
@[simp] theorem slV_none (id : Nat) : slV id none = .junk := rfl
@[simp] theorem slV_some (id : Nat) (l : List Int) : slV id (some l) = .one (.sl id 1 l.length 0 l.length) := rfl
@[simp] theorem slO_none : slO none = none := rfl
@[simp] theorem slO_some (l : List Int) : slO (some l) = some (.row 1 (intsOf l)) := rfl

def p8S (h : Heap) (f : Fn) (b : Nat) (v6 : V) (o5 : Option (List Int)) (done : List (List Int)) : St :=
  ⟨[(4, I (b : Nat)), (1, .one (.ptr h.length 1 0 0)), (6, v6), (5, slV (h.length + 1) o5), (3, .one (.sl (h.length + 2) 1 done.length 0 done.length)), (1005, .junk), (1006, .junk)],
   h ++ [some (.row 5 [encFn f]), slO o5, some (.row 1 (listsOf done))], []⟩
theorem p8_in (h : Heap) (f : Fn) (hf : f.Ok) (he : Ended f) (hn : f.blocks.length ≤ 1000) (b : Nat) (done : List (List Int)) :
    lpK 79 Tryz.f79 35 1 h (p8S h f b (I (0 : Nat)) (some []) done) = some (.exit 2, p8S h f b (I (f.blocks.length : Nat)) (some (prdB (f.blocks.map nextB) b f.blocks.length)) done) := by
  have key := loop_fun (P := Tryz.prog) (C := cfg) (sc := runScope Tryz.prog cfg 35 h.length (cfg.live 79) 0) (N := 35) (n0 := h.length) (K := cfg.live 79) (c := loopAt Tryz.f79 1)
    (fun k : Nat => p8S h f b (I (k : Nat)) (some (prdB (f.blocks.map nextB) b k)) done) (fun k => k ≤ f.blocks.length) (fun k => f.blocks.length - k)
    (fun _ => (.exit 2, p8S h f b (I (f.blocks.length : Nat)) (some (prdB (f.blocks.map nextB) b f.blocks.length)) done)) ?_ 0 (Nat.zero_le _)
  · rw [prdB_zero] at key; exact key
  intro k hk
  rcases Nat.lt_or_ge k f.blocks.length with hlt | hge
  · have hltI : ((k : Nat) : Int) < ((f.blocks.length : Nat) : Int) := by omega
    obtain ⟨l, hl⟩ : ∃ l, f.blocks[k]? = some l := ⟨_, List.getElem?_eq_getElem hlt⟩
    have hpl := prdB_len (f.blocks.map nextB) b k
    have e := fun h => next h f hf he k l hl
    simp [encFn] at e
    have hgd : (f.blocks.map nextB).getD k [] = nextB l := by simp [List.getD, hl]
    have hnl : Fit (nextB l) := by
      have h1 := foldU_len (toB l) []
      have h2 := toB_ok hf (List.mem_of_getElem? hl)
      unfold nextB
      show _ ≤ _
      have : (toB l).length ≤ 17592186044416 := h2
      simp at h1; omega
    refine .inl ⟨k + 1, ?_, hlt, by omega, rfl⟩
    rw [prdB_next, hgd]
    have e2 := fun h => has h (nextB l) hnl ((b : Nat) : Int)
    generalize (nextB l).contains ((b : Nat) : Int) = c at *
    cases c <;> simp (disch := omega) [round_eq, p8S, encFn, Tryz.f79, lv79, hlt, hltI, e, e2, room_of, intsOf_snoc, wrap_i64, -getElem?_pos]
  · have : k = f.blocks.length := by omega
    subst this
    refine .inr ⟨?_, nofun⟩
    simp (disch := omega) [round_eq, p8S, encFn, Tryz.f79, lv79, -getElem?_pos]
theorem p8_out (h : Heap) (f : Fn) (hf : f.Ok) (he : Ended f) (hn : f.blocks.length ≤ 1000) :
    lpK 79 Tryz.f79 35 0 h (p8S h f 0 .junk none []) = some (.exit 0, p8S h f f.blocks.length .junk none (prd8 f.blocks.length (f.blocks.map nextB) f.blocks.length)) := by
  have key := loop_fun (P := Tryz.prog) (C := cfg) (sc := runScope Tryz.prog cfg 35 h.length (cfg.live 79) 0) (N := 35) (n0 := h.length) (K := cfg.live 79) (c := loopAt Tryz.f79 0)
    (fun b : Nat => p8S h f b .junk none (prd8 f.blocks.length (f.blocks.map nextB) b)) (fun b => b ≤ f.blocks.length) (fun b => f.blocks.length - b)
    (fun _ => (.exit 0, p8S h f f.blocks.length .junk none (prd8 f.blocks.length (f.blocks.map nextB) f.blocks.length))) ?_ 0 (Nat.zero_le _)
  · rw [prd8_zero] at key; exact key
  intro b hb
  rcases Nat.lt_or_ge b f.blocks.length with hlt | hge
  · have hltI : ((b : Nat) : Int) < ((f.blocks.length : Nat) : Int) := by omega
    have e := p8_in h f hf he hn b (prd8 f.blocks.length (f.blocks.map nextB) b)
    simp [p8S, encFn, lpK, lv79, Tryz.f79] at e
    refine .inl ⟨b + 1, ?_, hlt, by omega, rfl⟩
    simp (disch := (first | omega | simp (disch := omega) [])) [round_eq, p8S, encFn, Tryz.f79, lv79, hlt, hltI, e, room_of, listsOf_snoc', prd8_next, wrap_i64, -getElem?_pos]
  · have : b = f.blocks.length := by omega
    subst this
    refine .inr ⟨?_, nofun⟩
    simp (disch := omega) [round_eq, p8S, encFn, Tryz.f79, lv79, -getElem?_pos]
theorem preds8 (h : Heap) (f : Fn) (hf : f.Ok) (he : Ended f) (hn : f.blocks.length ≤ 1000) : CX 79 [.agg (encFn f)] h = some (Sl (listsOf (prd8 f.blocks.length (f.blocks.map nextB) f.blocks.length)), h, []) := by
  have e := p8_out h f hf he hn
  refine CI_of Tryz.func79 rfl 0 ?_
  have hk : cfg.keep 79 = 0 := rfl
  simp [p8S, lpK, encFn, lv79, Tryz.f79] at e
  simp (disch := omega) [Tryz.f79, lv79, hk, encFn, e, -getElem?_pos]
end Go.Proofs.YtkbdhjfjbkmkcaaGreat.Abs
