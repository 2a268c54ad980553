/- YtkbdhjfjbkmkcaaGreatJT53: texts that follow each other, as one. -/
import Derived.Test.YtkbdhjfjbkmkcaaGreatJT51
import Derived.Test.YtkbdhjfjbkmkcaaGreatJT52
import Derived.Test.YtkbdhjfjbkmkcaaGreatJT50
import Derived.Test.YtkbdhjfjbkmkcaaGreatJT44
import Derived.WalkKit
import Derived.ProofKit
import Derived.Test.YtkbdhjfjbkmkcaaGreatJT49
import Derived.Test.YtkbdhjfjbkmkcaaGreatJT39
/- What is wrong with a value that an instruction takes, as the document tells it. -/
set_option linter.unusedSectionVars false
set_option linter.unusedSimpArgs false
set_option linter.unusedVariables false
namespace Go.Proofs.YtkbdhjfjbkmkcaaGreat.Abs
open Go Go.RowKit Go.Proofs

theorem madeG_some : ∀ (ls : List (List Ins)) {id : Int} {block at_ k b i : Nat} {kd : Int}, madeG id block at_ k ls = some (b, i, kd) →
    k ≤ b ∧ b < k + ls.length ∧ b ≤ block ∧ ∃ l x, ls[b - k]? = some l ∧ l[i]? = some x ∧ x.id = id ∧ makesF x.op x.ty = kd ∧ kd ≠ 0 ∧ (b < block ∨ i < at_)
  | [], _, _, _, _, _, _, _, h => by simp [madeG] at h
  | l :: ls, id, block, at_, k, b, i, kd, h => by
    rw [madeG] at h
    by_cases hk : k ≤ block
    · rw [if_pos hk] at h
      cases hf : findI (mkI id) 0 (mdL block at_ k l) with
      | some j =>
        rw [hf] at h
        simp only [Option.some.injEq, Prod.mk.injEq] at h
        obtain ⟨rfl, rfl, rfl⟩ := h
        obtain ⟨_, x, hx, h2, _⟩ := findI_some hf
        simp only [Nat.sub_zero] at hx
        have hc : l[j]? = some x ∧ (k < block ∨ j < at_) := by
          have hi := (List.getElem?_eq_some_iff.1 hx).1
          unfold mdL at hx hi
          split at hx
          · exact ⟨hx, .inl (by assumption)⟩
          · rename_i hn
            rw [if_neg hn] at hi
            have : j < at_ := by simp at hi; omega
            exact ⟨by rw [List.getElem?_take_of_lt this] at hx; exact hx, .inr this⟩
        simp only [mkI, Bool.and_eq_true] at h2
        refine ⟨Nat.le_refl _, by simp, hk, l, x, by simp, hc.1, by simpa using h2.1, (kndAt_of hc.1).symm, ?_, hc.2⟩
        rw [kndAt_of hc.1]
        simpa using h2.2
      | none =>
        rw [hf] at h
        obtain ⟨g1, g2, g3, l', x, g4, g5⟩ := madeG_some ls h
        refine ⟨by omega, by simp; omega, g3, l', x, ?_, g5⟩
        rw [show b - k = (b - (k + 1)) + 1 by omega, List.getElem?_cons_succ]
        exact g4
    · rw [if_neg hk] at h; simp at h
theorem madeF_some {f : Fn} {id : Int} {block at_ b : Nat} {a kd : Int} (h : madeF f id block at_ = some (b, a, kd)) :
    (a = -1 ∧ b = 0 ∧ 0 ≤ id ∧ id < f.params.length ∧ kd = f.params.getD id.toNat 0) ∨ (¬ (0 ≤ id ∧ id < f.params.length) ∧ ∃ (i : Nat) (l : List Ins) (x : Ins), a = (i : Int) ∧ b ≤ block ∧ f.blocks[b]? = some l ∧ l[i]? = some x ∧ x.id = id ∧ makesF x.op x.ty = kd ∧ kd ≠ 0 ∧ (b < block ∨ i < at_)) := by
  unfold madeF at h
  split at h
  · rename_i h1
    simp only [Option.some.injEq, Prod.mk.injEq] at h
    obtain ⟨rfl, rfl, rfl⟩ := h
    exact .inl ⟨rfl, rfl, h1.1, h1.2, rfl⟩
  · rename_i h1
    cases hm : madeG id block at_ 0 f.blocks with
    | none => rw [hm] at h; simp at h
    | some r =>
      obtain ⟨b', i, kd'⟩ := r
      rw [hm] at h
      simp only [Option.map_some, Option.some.injEq, Prod.mk.injEq] at h
      obtain ⟨rfl, rfl, rfl⟩ := h
      obtain ⟨_, _, g3, l, x, g4, g5, g6, g7, g8, g9⟩ := madeG_some _ hm
      exact .inr ⟨h1, i, l, x, rfl, g3, by simpa using g4, g5, g6, g7, g8, g9⟩

def cellR (rows : List (List Bool)) (a b : Nat) : Bool := (rows.getD a []).getD b false
def takeF (p : List Fn) (f : Fn) (rows : List (List Bool)) (k i : Nat) (x : Ins) (n : Nat) : Int :=
  match madeF f (x.args.getD n 0) f.blocks.length 0 with
  | none => 8
  | some (b, a, kd) => if kd ≠ wantF p f x n then 9 else if a < 0 then 0
    else if x.op = 20 then (if cellR rows b (x.to.getD n 0).toNat = true then 0 else 10)
    else if b = k then (if (i : Int) ≤ a then 10 else 0) else if cellR rows b k = true then 0 else 10
theorem cell_get {n : Nat} {ss : List (List Int)} {rows : List (List Bool)} (hr : TabG n ss rows) {a b : Nat} (ha : a < n) (hb : b < n) : ∃ r, rows[a]? = some r ∧ r[b]? = some (cellR rows a b) ∧ r.length = rows.length := by
  obtain ⟨r, h1, h2, h3⟩ := hr.2 a ha
  obtain ⟨x, h4, _⟩ := h3 b hb
  refine ⟨r, h1, ?_, by rw [h2, hr.1]⟩
  have : cellR rows a b = x := by simp [cellR, List.getD, h1, h4]
  rw [this]; exact h4
theorem ahead_tab (h : Heap) {n : Nat} {ss : List (List Int)} {rows : List (List Bool)} (hr : TabG n ss rows) (hn : n ≤ 1000) {a b : Nat} (ha : a < n) (hb : b < n) : CX 85 [Sl (tabOf rows), I (a : Nat), I (b : Nat)] h = some (Bo (cellR rows a b), h, []) := by
  obtain ⟨r, h1, h2, h3⟩ := cell_get hr ha hb
  exact ahead9 h rows (by rw [hr.1]; exact hn) a b r _ h1 h2 h3

set_option maxHeartbeats 4000000 in
theorem take11 (h : Heap) (p : List Fn) (hp : POk p) (f : Fn) (hf : f.Ok) (hn : f.blocks.length ≤ 1000) (rows : List (List Bool)) (hr : TabG f.blocks.length (f.blocks.map nextB) rows) (k : Nat) (l : List Ins) (hl : f.blocks[k]? = some l) (i : Nat) (x : Ins) (hx : l[i]? = some x)
    (n : Nat) (hna : n < x.args.length) (hc : countsB x.op x.args.length x.to.length = true) (hh : headF p f x = 0) (hto : x.op = 20 → ∀ b, b ∈ x.to → 0 ≤ b ∧ b < f.blocks.length) :
    CX 49 [.agg (encProg p), .agg (encFn f), Sl (tabOf rows), I (k : Nat), I (i : Nat), I (n : Nat)] h = some (I (takeF p f rows k i x n), h, []) := by
  have hk : cfg.keep 49 = 0 := rfl
  refine CI_of Tryz.func49 rfl 0 ?_
  have hkl := (List.getElem?_eq_some_iff.1 hl).1
  have hil := (List.getElem?_eq_some_iff.1 hx).1
  have hll : l.length ≤ 17592186044416 := hf.code l (List.mem_of_getElem? hl)
  obtain ⟨id, hid⟩ : ∃ id, x.args[n]? = some id := ⟨_, List.getElem?_eq_getElem hna⟩
  have hg : x.args.getD n 0 = id := by simp [List.getD, hid]
  have e1 := fun h => made11 h f hf id f.blocks.length 0
  have e2 := fun h => want11 h p hp f x n hc hna hh
  have hbl := fun b a kd (hm : madeF f id f.blocks.length 0 = some (b, a, kd)) => madeF_some hm
  have hq : quietFn Tryz.f49 84 [2] = true := qt49
  have q := hq
  simp [Tryz.f49, quietFn, quietRegs] at q
  have d := dt49
  simp [Tryz.f49, infoFn, infoRegs, List.lookup] at d
  unfold takeF
  rw [hg]
  generalize wantF p f x n = wt at *
  simp [encFn, encIns, encProg] at e1 e2
  cases hm : madeF f id f.blocks.length 0 with
  | none =>
    rw [hm] at e1
    simp [plcL] at e1
    simp (disch := omega) [Tryz.f49, lz49, hk, encFn, encIns, encProg, hl, hkl, hx, hil, hid, hna, e1, e2, q, d, unOK, apartR, disjoint, cellsApart, -getElem?_pos]
  | some r =>
    obtain ⟨b, a, kd⟩ := r
    have hmm := hbl b a kd hm
    rw [hm] at e1
    simp [plcL] at e1
    simp only
    by_cases h1 : kd = wt
    · subst h1
      by_cases h2 : a < 0
      · simp (disch := omega) [Tryz.f49, lz49, hk, encFn, encIns, encProg, hl, hkl, hx, hil, hid, hna, e1, e2, h2, q, d, unOK, apartR, disjoint, cellsApart, -getElem?_pos]
      · obtain ⟨j, l', x', rfl, hbk, hlb, _⟩ : ∃ (j : Nat) (l' : List Ins) (x' : Ins), a = (j : Int) ∧ b ≤ f.blocks.length ∧ f.blocks[b]? = some l' ∧ True := by
          rcases hmm with ⟨rfl, _⟩ | ⟨_, j, l', x', g1, g2, g3, _⟩
          · omega
          · exact ⟨j, l', x', g1, g2, g3, trivial⟩
        have hblt := (List.getElem?_eq_some_iff.1 hlb).1
        by_cases h3 : x.op = 20
        · have h3B : (x.op == 20) = true := by simp [h3]
          have hnt : n < x.to.length := by
            unfold countsB at hc
            rw [if_pos h3] at hc
            have := of_decide_eq_true hc
            omega
          obtain ⟨t, ht⟩ : ∃ t, x.to[n]? = some t := ⟨_, List.getElem?_eq_getElem hnt⟩
          obtain ⟨t0, tl⟩ := hto h3 t (List.mem_of_getElem? ht)
          obtain ⟨tn, rfl⟩ : ∃ tn : Nat, t = (tn : Int) := ⟨t.toNat, by omega⟩
          have hgt : (x.to.getD n 0).toNat = tn := by simp [List.getD, ht]
          have e3 := fun h => ahead_tab h hr hn hblt (b := tn) (by omega)
          rw [hgt, if_pos h3]
          generalize cellR rows b tn = c at *
          cases c <;> simp (disch := omega) [Tryz.f49, lz49, hk, encFn, encIns, encProg, hl, hkl, hx, hil, hid, hna, ht, hnt, e1, e2, e3, h2, h3B, q, d, unOK, apartR, disjoint, cellsApart, -getElem?_pos]
        · have h3B : (x.op == 20) = false := by simp [h3]
          by_cases h4 : b = k
          · subst h4
            by_cases h5 : i ≤ j
            · have h5I : ((i : Nat) : Int) ≤ ((j : Nat) : Int) := by omega
              simp (disch := omega) [Tryz.f49, lz49, hk, encFn, encIns, encProg, hl, hkl, hx, hil, hid, hna, e1, e2, h2, h3, h3B, h5, h5I, q, d, unOK, apartR, disjoint, cellsApart, -getElem?_pos]
            · have h5I : ¬ ((i : Nat) : Int) ≤ ((j : Nat) : Int) := by omega
              simp (disch := omega) [Tryz.f49, lz49, hk, encFn, encIns, encProg, hl, hkl, hx, hil, hid, hna, e1, e2, h2, h3, h3B, h5, h5I, q, d, unOK, apartR, disjoint, cellsApart, -getElem?_pos]
          · have h4B : (((b : Nat) : Int) == ((k : Nat) : Int)) = false := by simp; omega
            have h4N : (((b : Nat) : Int) != ((k : Nat) : Int)) = true := by simp; omega
            have h4I : ¬ ((b : Nat) : Int) = ((k : Nat) : Int) := by omega
            have e3 := fun h => ahead_tab h hr hn hblt hkl
            generalize cellR rows b k = c at *
            cases c <;> simp (disch := omega) [Tryz.f49, lz49, hk, encFn, encIns, encProg, hl, hkl, hx, hil, hid, hna, e1, e2, e3, h2, h3, h3B, h4, h4B, h4N, h4I, q, d, unOK, apartR, disjoint, cellsApart, -getElem?_pos]
    · have h1B : (kd != wt) = true := by simp [h1]
      simp (disch := omega) [Tryz.f49, lz49, hk, encFn, encIns, encProg, hl, hkl, hx, hil, hid, hna, e1, e2, h1, h1B, q, d, unOK, apartR, disjoint, cellsApart, -getElem?_pos]
end Go.Proofs.YtkbdhjfjbkmkcaaGreat.Abs

/- Whether a function may be, as the document tells it. -/
set_option linter.unusedSimpArgs false
set_option linter.unusedVariables false
namespace Go.Proofs.YtkbdhjfjbkmkcaaGreat.Abs
open Go Go.RowKit Go.Proofs

theorem fine_of' {f : Fn} (hf : f.Ok) (hw : FnW f) (hs : ShOK f) : f.Fine := by
  have hbb := hw.1.blocks
  refine ⟨hf, fun l h => (hs l h).1, by omega, ⟨by simp; omega, fun m hm => ?_⟩⟩
  obtain ⟨l, h1, rfl⟩ := List.mem_map.1 hm
  obtain ⟨g1, g2⟩ := hs l h1
  have hp := List.length_pos_iff.2 g1
  obtain ⟨x, hx⟩ : ∃ x, l[l.length - 1]? = some x := ⟨_, List.getElem?_eq_getElem (by omega)⟩
  have hto : toB l = x.to := by unfold toB; rw [hx]
  have hxw := (hw.2 l h1).2 x (List.mem_of_getElem? hx)
  obtain ⟨k1, k2⟩ := g2 _ x hx
  have hdd : decide (l.length - 1 + 1 = l.length) = true := decide_eq_true (by omega)
  rw [hdd] at k1
  have hop : x.op ≠ 20 := fun e => by rw [e] at k1; simp [endsB] at k1
  have hend : 26 ≤ x.op ∧ x.op ≤ 29 := by simpa [endsB] using k1
  have hlen : x.to.length ≤ 2 := by
    have := hxw.counts
    unfold countsB at this
    rw [if_neg hop, if_neg (by omega)] at this
    by_cases h28 : x.op = 28
    · rw [if_pos h28] at this; have := of_decide_eq_true this; omega
    · rw [if_neg h28, if_neg (by omega)] at this
      by_cases h26 : x.op = 26
      · rw [if_pos h26] at this; have := of_decide_eq_true this; omega
      · rw [if_neg h26] at this
        by_cases h27 : x.op = 27
        · rw [if_pos h27] at this; have := of_decide_eq_true this; omega
        · rw [if_neg h27] at this; have := of_decide_eq_true this; omega
  refine ⟨?_, fun b hb => ?_⟩
  · have := foldU_len (toB l) []
    unfold nextB
    rw [hto] at this ⊢
    simp at this
    omega
  · unfold nextB at hb
    rcases foldU_mem _ _ _ hb with h | h
    · simp at h
    · rw [hto] at h
      simpa using k2 hop b h
theorem nodup_all : ∀ {a b : List Int}, a.Nodup → (∀ x, x ∈ a → x ∈ b) → b.length = a.length → ∀ x, x ∈ b → x ∈ a
  | [], b, _, _, hl, x, hx => by
    have : b = [] := List.length_eq_zero_iff.1 (by simpa using hl)
    rw [this] at hx; simp at hx
  | y :: a, b, hn, hs, hl, x, hx => by
    have hy := hs y (by simp)
    by_cases hxy : x = y
    · simp [hxy]
    · have hn' := List.nodup_cons.1 hn
      have := nodup_all (a := a) (b := b.erase y) hn'.2 (fun z hz => by
        have hzy : z ≠ y := fun e => hn'.1 (e ▸ hz)
        exact (List.mem_erase_of_ne hzy).2 (hs z (by simp [hz]))) (by rw [List.length_erase_of_mem hy]; simp at hl; omega) x ((List.mem_erase_of_ne hxy).2 hx)
      simp [this]
theorem phi_to {l : List Ins} {i : Nat} {x : Ins} {ss : List (List Int)} {k n : Nat} (h : phiB l i x (prdB ss k n) = true) : ∀ b, b ∈ x.to → b ∈ prdB ss k n := by
  unfold phiB at h
  simp only [Bool.and_eq_true, List.all_eq_true] at h
  obtain ⟨_, h1, h2⟩ := h
  exact nodup_all (prdB_nodup ss k n) (fun y hy => by simpa using h2 y hy) (by simpa using h1)

structure FuncOK (p : List Fn) (f : Fn) (src : Bool) : Prop where
  some_ : 0 < f.blocks.length
  shaped : ShOK f
  fine : f.Fine
  met : ∀ v, v < f.blocks.length → Rch (f.blocks.map nextB) [0] (-1) v
  first : prdB (f.blocks.map nextB) 0 f.blocks.length = []
  value : ∀ (k i : Nat) l x, f.blocks[k]? = some l → l[i]? = some x → valueF f k i l x src = 0
  uses : ∃ rows, TabG f.blocks.length (f.blocks.map nextB) rows ∧ ∀ (k i : Nat) l x, f.blocks[k]? = some l → l[i]? = some x → headF p f x = 0 ∧ ∀ n, n < x.args.length → takeF p f rows k i x n = 0

def fcS (h : Heap) (p : List Fn) (f : Fn) (src : Bool) (v8 v9 v12 v13 v15 v14 v11 : V) (c a : Int) : St :=
  ⟨[(4, .one (.ptr h.length 1 0 0)), (6, .one (.ptr (h.length + 1) 1 0 0)), (8, v8), (9, v9), (2, Bo src), (12, v12), (13, v13), (3, .one (.ptr (h.length + 2) 1 0 0)), (15, v15), (14, v14), (11, v11), (1009, .junk), (1013, .junk), (1014, .junk), (1015, .junk)],
   h ++ [some (.row 5 [encFn f]), some (.row 2 [[.int .i64 c, .int .i64 a]]), some (.row 1 [encProg p])], []⟩
def Fc1 (h : Heap) (p : List Fn) (f : Fn) (src : Bool) (r : AX × St) : Prop := ∃ (k i : Nat) (c a : Int), c ≠ 0 ∧ r = (.ret, fcS h p f src (I (k : Nat)) (I (i : Nat)) .junk .junk .junk .junk .junk c a)
def Fc2 (h : Heap) (p : List Fn) (f : Fn) (src : Bool) (rows : List (List Bool)) (r : AX × St) : Prop := ∃ (k i n : Nat) (c a : Int), c ≠ 0 ∧ r = (.ret, fcS h p f src (I (f.blocks.length : Nat)) .junk (I (k : Nat)) (I (i : Nat)) (I (n : Nat)) (I c) (Sl (tabOf rows)) c a)

section
variable (h : Heap) (p : List Fn) (f : Fn) (hf : f.Fine) (hw : FnW f) (src : Bool)
include hf hw
theorem fc_v1 (k : Nat) (l : List Ins) (hl : f.blocks[k]? = some l) :
    ∃ r, lpK 26 Tryz.f26 136 1 h (fcS h p f src (I (k : Nat)) (I (0 : Nat)) .junk .junk .junk .junk .junk 0 0) = some r ∧ (Fc1 h p f src r ∨
      (r = (.exit 2, fcS h p f src (I (k : Nat)) (I (l.length : Nat)) .junk .junk .junk .junk .junk 0 0) ∧ ∀ (i : Nat) x, l[i]? = some x → valueF f k i l x src = 0)) := by
  have hn := hf.len
  have hkl := (List.getElem?_eq_some_iff.1 hl).1
  have hll := (hw.2 l (List.mem_of_getElem? hl)).1
  refine loop_rel (P := Tryz.prog) (C := cfg) (sc := runScope Tryz.prog cfg 136 h.length (cfg.live 26) 0) (N := 136) (n0 := h.length) (K := cfg.live 26) (c := loopAt Tryz.f26 1)
    (fun i : Nat => fcS h p f src (I (k : Nat)) (I (i : Nat)) .junk .junk .junk .junk .junk 0 0) (fun i => i ≤ l.length ∧ ∀ (j : Nat) x, j < i → l[j]? = some x → valueF f k j l x src = 0) (fun i => l.length - i)
    (fun _ r => Fc1 h p f src r ∨ (r = (.exit 2, fcS h p f src (I (k : Nat)) (I (l.length : Nat)) .junk .junk .junk .junk .junk 0 0) ∧ ∀ (i : Nat) x, l[i]? = some x → valueF f k i l x src = 0)) ?_ 0 ⟨Nat.zero_le _, fun j x hj => by omega⟩
  rintro i ⟨hi, hall⟩
  rcases Nat.lt_or_ge i l.length with hlt | hge
  · have hltI : ((i : Nat) : Int) < ((l.length : Nat) : Int) := by omega
    obtain ⟨x, hx⟩ : ∃ x, l[i]? = some x := ⟨_, List.getElem?_eq_getElem hlt⟩
    have e1 := fun h => value11 h f hf.ok hf.ended hn k l hl i x hx src
    simp [encFn] at e1
    by_cases hc : valueF f k i l x src = 0
    · rw [hc] at e1
      refine .inl ⟨i + 1, ?_, ⟨hlt, fun j y hj hy => ?_⟩, by omega, fun r h => h⟩
      · simp (disch := omega) [round_eq, fcS, encFn, encIns, encProg, Tryz.f26, lv26, hl, hkl, hx, hlt, hltI, e1, wrap_i64, -getElem?_pos]
      · rcases Nat.lt_or_ge j i with hji | hji
        · exact hall j y hji hy
        · obtain rfl : j = i := by omega
          rw [hx] at hy; cases hy; exact hc
    · generalize valueF f k i l x src = c at *
      have hcB : (c != 0) = true := by simp [hc]
      refine .inr ⟨(.ret, fcS h p f src (I (k : Nat)) (I (i : Nat)) .junk .junk .junk .junk .junk c x.at_), ?_, nofun, .inl ⟨_, _, c, _, hc, rfl⟩⟩
      simp (disch := omega) [round_eq, fcS, encFn, encIns, encProg, Tryz.f26, lv26, hl, hkl, hx, hlt, hltI, e1, hc, hcB, wrap_i64, -getElem?_pos]
  · have : i = l.length := by omega
    subst this
    refine .inr ⟨_, ?_, ?_, .inr ⟨rfl, fun j x hx => hall j x (List.getElem?_eq_some_iff.1 hx).1 hx⟩⟩
    · simp (disch := omega) [round_eq, fcS, encFn, encIns, encProg, Tryz.f26, lv26, hl, hkl, -getElem?_pos]
    · nofun
theorem fc_v0 :
    ∃ r, lpK 26 Tryz.f26 136 0 h (fcS h p f src (I (0 : Nat)) .junk .junk .junk .junk .junk .junk 0 0) = some r ∧ (Fc1 h p f src r ∨
      (r = (.exit 0, fcS h p f src (I (f.blocks.length : Nat)) .junk .junk .junk .junk .junk .junk 0 0) ∧ ∀ (k i : Nat) l x, f.blocks[k]? = some l → l[i]? = some x → valueF f k i l x src = 0)) := by
  have hn := hf.len
  refine loop_rel (P := Tryz.prog) (C := cfg) (sc := runScope Tryz.prog cfg 136 h.length (cfg.live 26) 0) (N := 136) (n0 := h.length) (K := cfg.live 26) (c := loopAt Tryz.f26 0)
    (fun k : Nat => fcS h p f src (I (k : Nat)) .junk .junk .junk .junk .junk .junk 0 0) (fun k => k ≤ f.blocks.length ∧ ∀ (j i : Nat) l x, j < k → f.blocks[j]? = some l → l[i]? = some x → valueF f j i l x src = 0) (fun k => f.blocks.length - k)
    (fun _ r => Fc1 h p f src r ∨ (r = (.exit 0, fcS h p f src (I (f.blocks.length : Nat)) .junk .junk .junk .junk .junk .junk 0 0) ∧ ∀ (k i : Nat) l x, f.blocks[k]? = some l → l[i]? = some x → valueF f k i l x src = 0)) ?_ 0 ⟨Nat.zero_le _, fun j i l x hj => by omega⟩
  rintro k ⟨hk, hall⟩
  rcases Nat.lt_or_ge k f.blocks.length with hlt | hge
  · have hltI : ((k : Nat) : Int) < ((f.blocks.length : Nat) : Int) := by omega
    obtain ⟨l, hl⟩ : ∃ l, f.blocks[k]? = some l := ⟨_, List.getElem?_eq_getElem hlt⟩
    obtain ⟨r, e, hr⟩ := fc_v1 h p f hf hw src k l hl
    rcases hr with ⟨k', i', c, a, hc, rfl⟩ | ⟨rfl, hv⟩
    · simp [fcS, encFn, encProg, lpK, lv26, Tryz.f26] at e
      refine .inr ⟨_, ?_, ?_, .inl ⟨k', i', c, a, hc, rfl⟩⟩
      · simp (disch := omega) [round_eq, fcS, encFn, encProg, Tryz.f26, lv26, hlt, hltI, e, wrap_i64, -getElem?_pos]
      · nofun
    · simp [fcS, encFn, encProg, lpK, lv26, Tryz.f26] at e
      refine .inl ⟨k + 1, ?_, ⟨hlt, fun j i l' x hj hl' hx => ?_⟩, by omega, fun r h => h⟩
      · simp (disch := omega) [round_eq, fcS, encFn, encProg, Tryz.f26, lv26, hlt, hltI, e, wrap_i64, -getElem?_pos]
      · rcases Nat.lt_or_ge j k with hji | hji
        · exact hall j i l' x hji hl' hx
        · obtain rfl : j = k := by omega
          rw [hl] at hl'; cases hl'; exact hv i x hx
  · have : k = f.blocks.length := by omega
    subst this
    refine .inr ⟨_, ?_, ?_, .inr ⟨rfl, fun j i l x hl hx => hall j i l x (List.getElem?_eq_some_iff.1 hl).1 hl hx⟩⟩
    · simp (disch := omega) [round_eq, fcS, encFn, encProg, Tryz.f26, lv26, -getElem?_pos]
    · nofun

variable (hp : POk p) (hs : ShOK f) (rows : List (List Bool)) (hr : TabG f.blocks.length (f.blocks.map nextB) rows) (hto : ∀ (k i : Nat) l x, f.blocks[k]? = some l → l[i]? = some x → x.op = 20 → ∀ b, b ∈ x.to → 0 ≤ b ∧ b < f.blocks.length)
include hp hs hr hto
abbrev fcU (h : Heap) (p : List Fn) (f : Fn) (src : Bool) (rows : List (List Bool)) (v12 v13 v15 v14 : V) : St := fcS h p f src (I (f.blocks.length : Nat)) .junk v12 v13 v15 v14 (Sl (tabOf rows)) 0 0
theorem fc_a (k : Nat) (l : List Ins) (hl : f.blocks[k]? = some l) (i : Nat) (x : Ins) (hx : l[i]? = some x) (c0 : Int) (hc0 : headF p f x = c0) :
    ∃ (n : Nat) (c : Int), lpK 26 Tryz.f26 136 4 h (fcU h p f src rows (I (k : Nat)) (I (i : Nat)) (I (0 : Nat)) (I c0)) = some (.exit 8, fcU h p f src rows (I (k : Nat)) (I (i : Nat)) (I (n : Nat)) (I c)) ∧ (c = 0 → c0 = 0 ∧ ∀ m, m < x.args.length → takeF p f rows k i x m = 0) := by
  have hn := hf.len
  have hkl := (List.getElem?_eq_some_iff.1 hl).1
  have hil := (List.getElem?_eq_some_iff.1 hx).1
  have hxo := hf.ok.each l (List.mem_of_getElem? hl) x (List.mem_of_getElem? hx)
  have hxa : x.args.length ≤ 17592186044416 := hxo.args
  have hxw := (hw.2 l (List.mem_of_getElem? hl)).2 x (List.mem_of_getElem? hx)
  have key := loop_rel (P := Tryz.prog) (C := cfg) (sc := runScope Tryz.prog cfg 136 h.length (cfg.live 26) 0) (N := 136) (n0 := h.length) (K := cfg.live 26) (c := loopAt Tryz.f26 4)
    (fun s : Nat × Int => fcU h p f src rows (I (k : Nat)) (I (i : Nat)) (I (s.1 : Nat)) (I s.2)) (fun s => s.1 ≤ x.args.length ∧ (s.2 = 0 → c0 = 0 ∧ ∀ m, m < s.1 → takeF p f rows k i x m = 0)) (fun s => x.args.length - s.1)
    (fun _ r => ∃ (n : Nat) (c : Int), r = (.exit 8, fcU h p f src rows (I (k : Nat)) (I (i : Nat)) (I (n : Nat)) (I c)) ∧ (c = 0 → c0 = 0 ∧ ∀ m, m < x.args.length → takeF p f rows k i x m = 0)) ?_ (0, c0) ⟨Nat.zero_le _, fun hc => ⟨hc, fun m hm => by omega⟩⟩
  · obtain ⟨r, e, n, c, rfl, g⟩ := key
    exact ⟨n, c, e, g⟩
  rintro ⟨n, c⟩ ⟨j1, j2⟩
  simp only at j1 j2 ⊢
  rcases Nat.lt_or_ge n x.args.length with hlt | hge
  · have hltI : ((n : Nat) : Int) < ((x.args.length : Nat) : Int) := by omega
    by_cases hc : c = 0
    · subst hc
      obtain ⟨g1, g2⟩ := j2 rfl
      have e1 := fun h => take11 h p hp f hf.ok hn rows hr k l hl i x hx n hlt hxw.counts (by rw [hc0]; exact g1) (hto k i l x hl hx)
      simp [encFn, encProg] at e1
      refine .inl ⟨(n + 1, takeF p f rows k i x n), ?_, ⟨hlt, fun h0 => ⟨g1, fun m hm => ?_⟩⟩, by simp only; omega, fun r h => h⟩
      · generalize takeF p f rows k i x n = c' at *
        simp (disch := omega) [round_eq, fcS, encFn, encIns, encProg, Tryz.f26, lv26, hl, hkl, hx, hil, hlt, hltI, e1, wrap_i64, -getElem?_pos]
      · simp only at h0 hm
        rcases Nat.lt_or_ge m n with hmn | hmn
        · exact g2 m hmn
        · obtain rfl : m = n := by omega
          exact h0
    · have hcB : (c == 0) = false := by simp [hc]
      refine .inr ⟨_, ?_, ?_, n, c, rfl, fun h0 => absurd h0 hc⟩
      · simp (disch := omega) [round_eq, fcS, encFn, encIns, encProg, Tryz.f26, lv26, hl, hkl, hx, hil, hlt, hltI, hc, hcB, -getElem?_pos]
      · nofun
  · have : n = x.args.length := by omega
    subst this
    refine .inr ⟨_, ?_, ?_, x.args.length, c, rfl, j2⟩
    · simp (disch := omega) [round_eq, fcS, encFn, encIns, encProg, Tryz.f26, lv26, hl, hkl, hx, hil, -getElem?_pos]
    · nofun
def UseOK (p : List Fn) (f : Fn) (rows : List (List Bool)) (k i : Nat) (x : Ins) : Prop := headF p f x = 0 ∧ ∀ n, n < x.args.length → takeF p f rows k i x n = 0
theorem fc_i (k : Nat) (l : List Ins) (hl : f.blocks[k]? = some l) :
    ∃ r, lpK 26 Tryz.f26 136 3 h (fcU h p f src rows (I (k : Nat)) (I (0 : Nat)) .junk .junk) = some r ∧ (Fc2 h p f src rows r ∨
      (r = (.exit 6, fcU h p f src rows (I (k : Nat)) (I (l.length : Nat)) .junk .junk) ∧ ∀ (i : Nat) x, l[i]? = some x → UseOK p f rows k i x)) := by
  have hn := hf.len
  have hkl := (List.getElem?_eq_some_iff.1 hl).1
  have hll := (hw.2 l (List.mem_of_getElem? hl)).1
  have q := qt26
  simp [Tryz.f26, quietFn, quietRegs] at q
  refine loop_rel (P := Tryz.prog) (C := cfg) (sc := runScope Tryz.prog cfg 136 h.length (cfg.live 26) 0) (N := 136) (n0 := h.length) (K := cfg.live 26) (c := loopAt Tryz.f26 3)
    (fun i : Nat => fcU h p f src rows (I (k : Nat)) (I (i : Nat)) .junk .junk) (fun i => i ≤ l.length ∧ ∀ (j : Nat) x, j < i → l[j]? = some x → UseOK p f rows k j x) (fun i => l.length - i)
    (fun _ r => Fc2 h p f src rows r ∨ (r = (.exit 6, fcU h p f src rows (I (k : Nat)) (I (l.length : Nat)) .junk .junk) ∧ ∀ (i : Nat) x, l[i]? = some x → UseOK p f rows k i x)) ?_ 0 ⟨Nat.zero_le _, fun j x hj => by omega⟩
  rintro i ⟨hi, hall⟩
  rcases Nat.lt_or_ge i l.length with hlt | hge
  · have hltI : ((i : Nat) : Int) < ((l.length : Nat) : Int) := by omega
    obtain ⟨x, hx⟩ : ∃ x, l[i]? = some x := ⟨_, List.getElem?_eq_getElem hlt⟩
    have hxo := hf.ok.each l (List.mem_of_getElem? hl) x (List.mem_of_getElem? hx)
    have e1 := fun h => head11 h p hp f x hxo
    simp [encFn, encIns, encProg] at e1
    obtain ⟨n, c, e2, hc⟩ := fc_a h p f hf hw src hp hs rows hr hto k l hl i x hx _ rfl
    generalize hce : headF p f x = c0 at *
    simp [fcS, encFn, encProg, lpK, lv26, Tryz.f26] at e2
    by_cases hc0 : c = 0
    · subst hc0
      refine .inl ⟨i + 1, ?_, ⟨hlt, fun j y hj hy => ?_⟩, by omega, fun r h => h⟩
      · simp (disch := omega) [round_eq, fcS, encFn, encIns, encProg, Tryz.f26, lv26, hl, hkl, hx, hlt, hltI, e1, e2, q, wrap_i64, -getElem?_pos]
      · rcases Nat.lt_or_ge j i with hji | hji
        · exact hall j y hji hy
        · obtain rfl : j = i := by omega
          rw [hx] at hy; cases hy
          obtain ⟨g1, g2⟩ := hc rfl
          exact ⟨by rw [hce]; exact g1, g2⟩
    · have hcB : (c != 0) = true := by simp [hc0]
      refine .inr ⟨_, ?_, ?_, .inl ⟨k, i, n, c, x.at_, hc0, rfl⟩⟩
      · simp (disch := omega) [round_eq, fcS, encFn, encIns, encProg, Tryz.f26, lv26, hl, hkl, hx, hlt, hltI, e1, e2, hc0, hcB, q, wrap_i64, -getElem?_pos]
      · nofun
  · have : i = l.length := by omega
    subst this
    refine .inr ⟨_, ?_, ?_, .inr ⟨rfl, fun j x hx => hall j x (List.getElem?_eq_some_iff.1 hx).1 hx⟩⟩
    · simp (disch := omega) [round_eq, fcS, encFn, encIns, encProg, Tryz.f26, lv26, hl, hkl, -getElem?_pos]
    · nofun
theorem fc_k :
    ∃ r, lpK 26 Tryz.f26 136 2 h (fcU h p f src rows (I (0 : Nat)) .junk .junk .junk) = some r ∧ (Fc2 h p f src rows r ∨
      (r = (.exit 4, fcU h p f src rows (I (f.blocks.length : Nat)) .junk .junk .junk) ∧ ∀ (k i : Nat) l x, f.blocks[k]? = some l → l[i]? = some x → UseOK p f rows k i x)) := by
  have hn := hf.len
  refine loop_rel (P := Tryz.prog) (C := cfg) (sc := runScope Tryz.prog cfg 136 h.length (cfg.live 26) 0) (N := 136) (n0 := h.length) (K := cfg.live 26) (c := loopAt Tryz.f26 2)
    (fun k : Nat => fcU h p f src rows (I (k : Nat)) .junk .junk .junk) (fun k => k ≤ f.blocks.length ∧ ∀ (j i : Nat) l x, j < k → f.blocks[j]? = some l → l[i]? = some x → UseOK p f rows j i x) (fun k => f.blocks.length - k)
    (fun _ r => Fc2 h p f src rows r ∨ (r = (.exit 4, fcU h p f src rows (I (f.blocks.length : Nat)) .junk .junk .junk) ∧ ∀ (k i : Nat) l x, f.blocks[k]? = some l → l[i]? = some x → UseOK p f rows k i x)) ?_ 0 ⟨Nat.zero_le _, fun j i l x hj => by omega⟩
  rintro k ⟨hk, hall⟩
  rcases Nat.lt_or_ge k f.blocks.length with hlt | hge
  · have hltI : ((k : Nat) : Int) < ((f.blocks.length : Nat) : Int) := by omega
    obtain ⟨l, hl⟩ : ∃ l, f.blocks[k]? = some l := ⟨_, List.getElem?_eq_getElem hlt⟩
    obtain ⟨r, e, hr'⟩ := fc_i h p f hf hw src hp hs rows hr hto k l hl
    rcases hr' with ⟨k', i', n', c, a, hc, rfl⟩ | ⟨rfl, hv⟩
    · simp [fcS, encFn, encProg, lpK, lv26, Tryz.f26] at e
      refine .inr ⟨_, ?_, ?_, .inl ⟨k', i', n', c, a, hc, rfl⟩⟩
      · simp (disch := omega) [round_eq, fcS, encFn, encProg, Tryz.f26, lv26, hlt, hltI, e, wrap_i64, -getElem?_pos]
      · nofun
    · simp [fcS, encFn, encProg, lpK, lv26, Tryz.f26] at e
      refine .inl ⟨k + 1, ?_, ⟨hlt, fun j i l' x hj hl' hx => ?_⟩, by omega, fun r h => h⟩
      · simp (disch := omega) [round_eq, fcS, encFn, encProg, Tryz.f26, lv26, hlt, hltI, e, wrap_i64, -getElem?_pos]
      · rcases Nat.lt_or_ge j k with hji | hji
        · exact hall j i l' x hji hl' hx
        · obtain rfl : j = k := by omega
          rw [hl] at hl'; cases hl'; exact hv i x hx
  · have : k = f.blocks.length := by omega
    subst this
    refine .inr ⟨_, ?_, ?_, .inr ⟨rfl, fun j i l x hl hx => hall j i l x (List.getElem?_eq_some_iff.1 hl).1 hl hx⟩⟩
    · simp (disch := omega) [round_eq, fcS, encFn, encProg, Tryz.f26, lv26, -getElem?_pos]
    · nofun
end
theorem function11 (h : Heap) (p : List Fn) (hp : POk p) (f : Fn) (hf : f.Ok) (hw : FnW f) (src : Bool) : ∃ c a : Int, CX 26 [.agg (encProg p), .agg (encFn f), Bo src] h = some (.agg [.int .i64 c, .int .i64 a], h, []) ∧ (c = 0 → FuncOK p f src) := by
  have hk : cfg.keep 26 = 0 := rfl
  have hbb := hw.1.blocks
  have hsh := fun h => shaped h f hf (by omega) (fun l hl => by have := (hw.2 l hl).1; omega)
  obtain ⟨c1, a1, e1, g1⟩ := hsh []
  simp [encFn] at e1
  by_cases hc1 : c1 = 0
  · subst hc1
    obtain ⟨h0, hs⟩ := g1 rfl
    have hfine := fine_of' hf hw hs
    obtain ⟨b2, e2, g2⟩ := reached8 [] f hfine h0
    simp [encFn] at e2
    cases b2 with
    | false =>
      refine ⟨14, f.at_, CI_of Tryz.func26 rfl 0 ?_, fun h => by simp at h⟩
      simp (disch := omega) [Tryz.f26, lv26, hk, encFn, encProg, e1, e2, -getElem?_pos]
    | true =>
      obtain ⟨m1, m2⟩ := g2 rfl
      obtain ⟨r3, e3, g3⟩ := fc_v0 h p f hfine hw src
      rcases g3 with ⟨k', i', c, a, hc, rfl⟩ | ⟨rfl, hv⟩
      · simp [fcS, encFn, encProg, lpK, lv26, Tryz.f26] at e3
        refine ⟨c, a, CI_of Tryz.func26 rfl 0 ?_, fun h => absurd h hc⟩
        simp (disch := omega) [Tryz.f26, lv26, hk, encFn, encProg, e1, e2, e3, -getElem?_pos]
      · simp [fcS, encFn, encProg, lpK, lv26, Tryz.f26] at e3
        have hto : ∀ (k i : Nat) l x, f.blocks[k]? = some l → l[i]? = some x → x.op = 20 → ∀ b, b ∈ x.to → 0 ≤ b ∧ b < f.blocks.length := fun k i l x hl hx hop b hb => by
          have h1 := hv k i l x hl hx
          have hphi : phiB l i x (prdB (f.blocks.map nextB) k f.blocks.length) = true := by
            unfold valueF at h1
            split at h1
            · simp at h1
            · split at h1
              · simp at h1
              · rename_i _ h2
                have hopB : (x.op == 20) = true := by simp [hop]
                rw [hopB] at h2
                simpa using h2
          have := prdB_mem.1 (phi_to hphi b hb)
          exact ⟨this.1, this.2.1⟩
        have ht := fun h => table h f hfine h0
        obtain ⟨rows, hr, e4⟩ := ht (h ++ [some (.row 5 [encFn f]), some (.row 2 [[.int .i64 0, .int .i64 0]]), some (.row 1 [encProg p])])
        obtain ⟨r5, e5, g5⟩ := fc_k h p f hfine hw src hp hs rows hr hto
        rcases g5 with ⟨k', i', n', c, a, hc, rfl⟩ | ⟨rfl, hu⟩
        · refine ⟨c, a, CI_of Tryz.func26 rfl 0 ?_, fun h => absurd h hc⟩
          simp [fcS, encFn, encProg, lpK, lv26, Tryz.f26] at e4 e5
          simp (disch := omega) [Tryz.f26, lv26, hk, encFn, encProg, e1, e2, e3, e4, e5, -getElem?_pos]
        · refine ⟨0, 0, CI_of Tryz.func26 rfl 0 ?_, fun _ => ⟨h0, hs, hfine, m1, m2, hv, rows, hr, hu⟩⟩
          simp [fcS, encFn, encProg, lpK, lv26, Tryz.f26] at e4 e5
          simp (disch := omega) [Tryz.f26, lv26, hk, encFn, encProg, e1, e2, e3, e4, e5, -getElem?_pos]
  · have hcB : (c1 != 0) = true := by simp [hc1]
    refine ⟨c1, f.at_, CI_of Tryz.func26 rfl 0 ?_, fun h => absurd h hc1⟩
    simp (disch := omega) [Tryz.f26, lv26, hk, encFn, encProg, e1, hc1, hcB, -getElem?_pos]
end Go.Proofs.YtkbdhjfjbkmkcaaGreat.Abs

/- Whether a program may be run, as the document tells it; is it small. -/
set_option linter.unusedSimpArgs false
set_option linter.unusedVariables false
namespace Go.Proofs.YtkbdhjfjbkmkcaaGreat.Abs
open Go Go.RowKit Go.Proofs

structure ProgOK (p : List Fn) (src : Bool) : Prop where
  len : p.length ≤ 32
  whole : ∀ f, f ∈ p → FnW f
  apart : Apart p
  main : ∃ f, findF p mainN = some f ∧ f.params.contains 2 = false
  funcs : ∀ f, f ∈ p → FuncOK p f src

def chS (h : Heap) (p : List Fn) (src : Bool) (i : Nat) (c a : Int) : St :=
  ⟨[(2, .one (.ptr h.length 1 0 0)), (4, .one (.ptr (h.length + 1) 1 0 0)), (7, I (i : Nat)), (1, Bo src)], h ++ [some (.row 1 [encProg p]), some (.row 2 [[.int .i64 c, .int .i64 a]])], []⟩
theorem ch_loop (h : Heap) (p : List Fn) (hp : POk p) (hl : p.length ≤ 32) (hw : ∀ f, f ∈ p → FnW f) (src : Bool) :
    ∃ r, lpK 10 Tryz.f10 50 0 h (chS h p src 0 0 0) = some r ∧ ((∃ (i : Nat) (c a : Int), c ≠ 0 ∧ r = (.ret, chS h p src i c a)) ∨ (r = (.exit 0, chS h p src p.length 0 0) ∧ ∀ f, f ∈ p → FuncOK p f src)) := by
  have key := loop_rel (P := Tryz.prog) (C := cfg) (sc := runScope Tryz.prog cfg 50 h.length (cfg.live 10) 0) (N := 50) (n0 := h.length) (K := cfg.live 10) (c := loopAt Tryz.f10 0)
    (fun i : Nat => chS h p src i 0 0) (fun i => i ≤ p.length ∧ ∀ f, f ∈ p.take i → FuncOK p f src) (fun i => p.length - i)
    (fun _ r => (∃ (i : Nat) (c a : Int), c ≠ 0 ∧ r = (.ret, chS h p src i c a)) ∨ (r = (.exit 0, chS h p src p.length 0 0) ∧ ∀ f, f ∈ p → FuncOK p f src)) ?_ 0 ⟨Nat.zero_le _, fun f hf => by simp at hf⟩
  · exact key
  have d := dt10
  simp [Tryz.f10, infoFn, infoRegs, List.lookup] at d
  rintro i ⟨hi, hall⟩
  rcases Nat.lt_or_ge i p.length with hlt | hge
  · have hltI : ((i : Nat) : Int) < ((p.length : Nat) : Int) := by omega
    obtain ⟨f, hf⟩ : ∃ f, p[i]? = some f := ⟨_, List.getElem?_eq_getElem hlt⟩
    have hfm := List.mem_of_getElem? hf
    obtain ⟨c, a, e1, g1⟩ := function11 [] p hp f (hp.each f hfm) (hw f hfm) src
    simp [encFn, encProg] at e1
    by_cases hc : c = 0
    · subst hc
      refine .inl ⟨i + 1, ?_, ⟨hlt, fun g hg => ?_⟩, by omega, fun r h => h⟩
      · simp (disch := omega) [round_eq, chS, encFn, encProg, Tryz.f10, lv10, hf, hlt, hltI, e1, d, unOK, apartR, disjoint, cellsApart, wrap_i64, -getElem?_pos]
      · rw [List.take_add_one, hf] at hg
        rcases List.mem_append.1 hg with hg | hg
        · exact hall g hg
        · have : g = f := by simpa using hg
          rw [this]; exact g1 rfl
    · have hcB : (c != 0) = true := by simp [hc]
      refine .inr ⟨(.ret, chS h p src i c a), ?_, nofun, .inl ⟨i, c, a, hc, rfl⟩⟩
      simp (disch := omega) [round_eq, chS, encFn, encProg, Tryz.f10, lv10, hf, hlt, hltI, e1, hc, hcB, d, unOK, apartR, disjoint, cellsApart, wrap_i64, -getElem?_pos]
  · have : i = p.length := by omega
    subst this
    rw [List.take_length] at hall
    refine .inr ⟨(.exit 0, chS h p src p.length 0 0), ?_, nofun, .inr ⟨rfl, hall⟩⟩
    simp (disch := omega) [round_eq, chS, encFn, encProg, Tryz.f10, lv10, -getElem?_pos]
theorem check11 (h : Heap) (p : List Fn) (hp : POk p) (src : Bool) : ∃ c a : Int, CX 10 [.agg (encProg p), Bo src] h = some (.agg [.int .i64 c, .int .i64 a], h, []) ∧ (c = 0 → ProgOK p src) := by
  have hk : cfg.keep 10 = 0 := rfl
  have d := dt10
  simp [Tryz.f10, infoFn, infoRegs, List.lookup] at d
  obtain ⟨c1, a1, e1, g1, b1⟩ := whole7 [] p hp
  have hw7 := fun h => whole7 h p hp
  have hpf := hp.fit
  by_cases hc1 : c1 = 0
  · subst hc1
    obtain ⟨hl, hw⟩ := g1 rfl
    obtain ⟨c2, a2, e2, g2⟩ := names11 [] p hp
    simp [encProg] at e1 e2
    by_cases hc2 : c2 = 0
    · subst hc2
      obtain ⟨n1, n2⟩ := g2 rfl
      obtain ⟨r3, e3, g3⟩ := ch_loop h p hp hl hw src
      rcases g3 with ⟨i, c, a, hc, rfl⟩ | ⟨rfl, hf⟩
      · refine ⟨c, a, CI_of Tryz.func10 rfl 0 ?_, fun h => absurd h hc⟩
        simp [chS, encProg, lpK, lv10, Tryz.f10] at e3
        simp (disch := omega) [Tryz.f10, lv10, hk, encProg, e1, e2, e3, -getElem?_pos]
      · refine ⟨0, 0, CI_of Tryz.func10 rfl 0 ?_, fun _ => ⟨hl, hw, n1, n2, hf⟩⟩
        simp [chS, encProg, lpK, lv10, Tryz.f10] at e3
        simp (disch := omega) [Tryz.f10, lv10, hk, encProg, e1, e2, e3, -getElem?_pos]
    · have hcB : (c2 != 0) = true := by simp [hc2]
      refine ⟨c2, a2, CI_of Tryz.func10 rfl 0 ?_, fun h => absurd h hc2⟩
      simp (disch := omega) [Tryz.f10, lv10, hk, encProg, e1, e2, hc2, hcB, -getElem?_pos]
  · obtain ⟨i, rfl, hi⟩ := b1 hc1
    obtain ⟨f, hf⟩ : ∃ f, p[i]? = some f := ⟨_, List.getElem?_eq_getElem hi⟩
    have hcB : (c1 != 0) = true := by simp [hc1]
    simp [encProg] at e1
    refine ⟨c1, f.at_, CI_of Tryz.func10 rfl 0 ?_, fun h => absurd h hc1⟩
    simp (disch := omega) [Tryz.f10, lv10, hk, encFn, encProg, e1, hf, hi, hc1, hcB, d, unOK, apartR, disjoint, cellsApart, -getElem?_pos]
end Go.Proofs.YtkbdhjfjbkmkcaaGreat.Abs

/- Whether a program is small, and may be run. -/
set_option linter.unusedSimpArgs false
set_option linter.unusedVariables false
namespace Go.Proofs.YtkbdhjfjbkmkcaaGreat.Abs
open Go Go.RowKit Go.Proofs

/-! How much a program is. -/
def fnO : Option Fn → Option AO
  | none => none
  | some f => some (.row 5 [encFn f])
def fnV (id : Nat) : Option Fn → V
  | none => .junk
  | some _ => .one (.ptr id 1 0 0)
@[simp] theorem fnO_none : fnO none = none := rfl
@[simp] theorem fnO_some (f : Fn) : fnO (some f) = some (.row 5 [encFn f]) := rfl
@[simp] theorem fnV_none (id : Nat) : fnV id none = .junk := rfl
@[simp] theorem fnV_some (id : Nat) (f : Fn) : fnV id (some f) = .one (.ptr id 1 0 0) := rfl
def szS (h : Heap) (p : List Fn) (i : Nat) (n : Int) (o7 : Option Fn) (v8 v9 : V) : St :=
  ⟨[(2, .one (.ptr h.length 1 0 0)), (6, I (i : Nat)), (5, I n), (1, I 100), (7, fnV (h.length + 1) o7), (8, v8), (9, v9), (1007, .junk), (1008, .junk), (1009, .junk)], h ++ [some (.row 1 [encProg p]), fnO o7], []⟩
def szI (n : Int) (x : Ins) : Int := IntKind.i64.wrap (IntKind.i64.wrap (IntKind.i64.wrap (IntKind.i64.wrap (n + 1) + IntKind.i64.wrap (((x.args.length : Nat) : Int) / 4)) + IntKind.i64.wrap (((x.to.length : Nat) : Int) / 4)) + IntKind.i64.wrap (((x.name.length : Nat) : Int) / 30))
def szF (n : Int) (f : Fn) : Int := IntKind.i64.wrap (IntKind.i64.wrap (IntKind.i64.wrap (n + ((f.blocks.length : Nat) : Int)) + ((f.params.length : Nat) : Int)) + IntKind.i64.wrap (((f.name.length : Nat) : Int) / 30))
section
variable (h : Heap) (p : List Fn) (hp : POk p)
include hp
theorem sz_in (i : Nat) (f : Fn) (hf : f.Ok) (k : Nat) (l : List Ins) (hl : f.blocks[k]? = some l) (n : Int) :
    ∃ (j : Nat) (n' : Int), lpK 22 Tryz.f22 98 2 h (szS h p i n (some f) (I (k : Nat)) (I (0 : Nat))) = some (.exit 4, szS h p i n' (some f) (I (k : Nat)) (I (j : Nat))) := by
  have hkl := (List.getElem?_eq_some_iff.1 hl).1
  have hll : l.length ≤ 17592186044416 := hf.code l (List.mem_of_getElem? hl)
  have key := loop_rel (P := Tryz.prog) (C := cfg) (sc := runScope Tryz.prog cfg 98 h.length (cfg.live 22) 0) (N := 98) (n0 := h.length) (K := cfg.live 22) (c := loopAt Tryz.f22 2)
    (fun s : Nat × Int => szS h p i s.2 (some f) (I (k : Nat)) (I (s.1 : Nat))) (fun s => s.1 ≤ l.length) (fun s => l.length - s.1)
    (fun _ r => ∃ (j : Nat) (n' : Int), r = (.exit 4, szS h p i n' (some f) (I (k : Nat)) (I (j : Nat)))) ?_ (0, n) (Nat.zero_le _)
  · obtain ⟨r, e, j, n', rfl⟩ := key
    exact ⟨j, n', e⟩
  rintro ⟨j, n⟩ hj
  simp only at hj ⊢
  by_cases hn : n ≤ 100
  · rcases Nat.lt_or_ge j l.length with hlt | hge
    · have hltI : ((j : Nat) : Int) < ((l.length : Nat) : Int) := by omega
      obtain ⟨x, hx⟩ : ∃ x, l[j]? = some x := ⟨_, List.getElem?_eq_getElem hlt⟩
      refine .inl ⟨(j + 1, szI n x), ?_, hlt, by simp only; omega, fun r h => h⟩
      simp (disch := omega) [round_eq, szS, szI, encFn, encIns, encProg, Tryz.f22, lv22, hl, hkl, hx, hlt, hltI, hn, wrap_i64, -getElem?_pos]
    · refine .inr ⟨_, ?_, ?_, j, n, rfl⟩
      · have : j = l.length := by omega
        subst this
        simp (disch := omega) [round_eq, szS, encFn, encIns, encProg, Tryz.f22, lv22, hl, hkl, hn, -getElem?_pos]
      · nofun
  · refine .inr ⟨_, ?_, ?_, j, n, rfl⟩
    · have hjI : ((j : Nat) : Int) < ((l.length : Nat) : Int) ∨ j = l.length := by omega
      rcases hjI with hltI | rfl
      · simp (disch := omega) [round_eq, szS, encFn, encIns, encProg, Tryz.f22, lv22, hl, hkl, hltI, hn, -getElem?_pos]
      · simp (disch := omega) [round_eq, szS, encFn, encIns, encProg, Tryz.f22, lv22, hl, hkl, hn, -getElem?_pos]
    · nofun
theorem sz_mid (i : Nat) (f : Fn) (hf : f.Ok) (n : Int) :
    ∃ (k : Nat) (n' : Int), lpK 22 Tryz.f22 98 1 h (szS h p i n (some f) (I (0 : Nat)) .junk) = some (.exit 2, szS h p i n' (some f) (I (k : Nat)) .junk) := by
  have hfb : f.blocks.length ≤ 17592186044416 := hf.blocks
  have key := loop_rel (P := Tryz.prog) (C := cfg) (sc := runScope Tryz.prog cfg 98 h.length (cfg.live 22) 0) (N := 98) (n0 := h.length) (K := cfg.live 22) (c := loopAt Tryz.f22 1)
    (fun s : Nat × Int => szS h p i s.2 (some f) (I (s.1 : Nat)) .junk) (fun s => s.1 ≤ f.blocks.length) (fun s => f.blocks.length - s.1)
    (fun _ r => ∃ (k : Nat) (n' : Int), r = (.exit 2, szS h p i n' (some f) (I (k : Nat)) .junk)) ?_ (0, n) (Nat.zero_le _)
  · obtain ⟨r, e, j, n', rfl⟩ := key
    exact ⟨j, n', e⟩
  rintro ⟨k, n⟩ hj
  simp only at hj ⊢
  by_cases hn : n ≤ 100
  · rcases Nat.lt_or_ge k f.blocks.length with hlt | hge
    · have hltI : ((k : Nat) : Int) < ((f.blocks.length : Nat) : Int) := by omega
      obtain ⟨l, hl⟩ : ∃ l, f.blocks[k]? = some l := ⟨_, List.getElem?_eq_getElem hlt⟩
      obtain ⟨j, n', e⟩ := sz_in h p hp i f hf k l hl n
      simp [szS, encFn, encProg, lpK, lv22, Tryz.f22] at e
      refine .inl ⟨(k + 1, n'), ?_, hlt, by simp only; omega, fun r h => h⟩
      simp (disch := omega) [round_eq, szS, encFn, encProg, Tryz.f22, lv22, hlt, hltI, hn, e, wrap_i64, -getElem?_pos]
    · refine .inr ⟨_, ?_, ?_, k, n, rfl⟩
      · have : k = f.blocks.length := by omega
        subst this
        simp (disch := omega) [round_eq, szS, encFn, encProg, Tryz.f22, lv22, hn, -getElem?_pos]
      · nofun
  · refine .inr ⟨_, ?_, ?_, k, n, rfl⟩
    · have hjI : ((k : Nat) : Int) < ((f.blocks.length : Nat) : Int) ∨ k = f.blocks.length := by omega
      rcases hjI with hltI | rfl
      · simp (disch := omega) [round_eq, szS, encFn, encProg, Tryz.f22, lv22, hltI, hn, -getElem?_pos]
      · simp (disch := omega) [round_eq, szS, encFn, encProg, Tryz.f22, lv22, hn, -getElem?_pos]
    · nofun
theorem sz_out (n : Int) :
    ∃ (i : Nat) (n' : Int), lpK 22 Tryz.f22 98 0 h (szS h p 0 n none .junk .junk) = some (.exit 0, szS h p i n' none .junk .junk) := by
  have hpf : p.length ≤ 17592186044416 := hp.fit
  have key := loop_rel (P := Tryz.prog) (C := cfg) (sc := runScope Tryz.prog cfg 98 h.length (cfg.live 22) 0) (N := 98) (n0 := h.length) (K := cfg.live 22) (c := loopAt Tryz.f22 0)
    (fun s : Nat × Int => szS h p s.1 s.2 none .junk .junk) (fun s => s.1 ≤ p.length) (fun s => p.length - s.1)
    (fun _ r => ∃ (i : Nat) (n' : Int), r = (.exit 0, szS h p i n' none .junk .junk)) ?_ (0, n) (Nat.zero_le _)
  · obtain ⟨r, e, j, n', rfl⟩ := key
    exact ⟨j, n', e⟩
  rintro ⟨i, n⟩ hj
  simp only at hj ⊢
  by_cases hn : n ≤ 100
  · rcases Nat.lt_or_ge i p.length with hlt | hge
    · have hltI : ((i : Nat) : Int) < ((p.length : Nat) : Int) := by omega
      obtain ⟨f, hf⟩ : ∃ f, p[i]? = some f := ⟨_, List.getElem?_eq_getElem hlt⟩
      have hfo := hp.each f (List.mem_of_getElem? hf)
      obtain ⟨k, n', e⟩ := sz_mid h p hp i f hfo (szF n f)
      simp [szS, szF, encFn, encProg, lpK, lv22, Tryz.f22] at e
      refine .inl ⟨(i + 1, n'), ?_, hlt, by simp only; omega, fun r h => h⟩
      simp (disch := omega) [round_eq, szS, szF, encFn, encProg, Tryz.f22, lv22, hf, hlt, hltI, hn, e, wrap_i64, -getElem?_pos]
    · refine .inr ⟨_, ?_, ?_, i, n, rfl⟩
      · have : i = p.length := by omega
        subst this
        simp (disch := omega) [round_eq, szS, encFn, encProg, Tryz.f22, lv22, hn, -getElem?_pos]
      · nofun
  · refine .inr ⟨_, ?_, ?_, i, n, rfl⟩
    · have hjI : ((i : Nat) : Int) < ((p.length : Nat) : Int) ∨ i = p.length := by omega
      rcases hjI with hltI | rfl
      · simp (disch := omega) [round_eq, szS, encFn, encProg, Tryz.f22, lv22, hltI, hn, -getElem?_pos]
      · simp (disch := omega) [round_eq, szS, encFn, encProg, Tryz.f22, lv22, hn, -getElem?_pos]
    · nofun
theorem size5 : ∃ n : Int, CX 22 [.agg (encProg p), I 100] h = some (I n, h, []) := by
  have hk : cfg.keep 22 = 0 := rfl
  obtain ⟨i, n', e⟩ := sz_out h p hp ((p.length : Nat) : Int)
  simp [szS, encFn, encProg, lpK, lv22, Tryz.f22] at e
  refine ⟨n', CI_of Tryz.func22 rfl 0 ?_⟩
  simp (disch := omega) [Tryz.f22, lv22, hk, encProg, e, -getElem?_pos]

/-! Is a program small? -/
def lgS (h : Heap) (p : List Fn) (i : Nat) (c : Int) : St := ⟨[(1, .one (.ptr h.length 1 0 0)), (3, I (i : Nat)), (2, I c)], h ++ [some (.row 1 [encProg p])], []⟩
def bigF (_ : Nat) (f : Fn) : Bool := decide (12 < f.blocks.length)
theorem lg_loop : lpK 7 Tryz.f7 22 0 h (lgS h p 0 0) = some (match findI bigF 0 p with | some i => (.ret, lgS h p i 1) | none => (.exit 0, lgS h p p.length 0)) := by
  have hpf : p.length ≤ 17592186044416 := hp.fit
  refine loop_search p bigF (fun i => lgS h p i 0) (fun i => (.ret, lgS h p i 1)) (.exit 0, lgS h p p.length 0) ?_ ?_ ?_
  · intro i f hf hi hb _
    have hiI : ((i : Nat) : Int) < ((p.length : Nat) : Int) := by omega
    have hbn : ¬ 12 < f.blocks.length := by simpa [bigF] using hb
    have hbI : ¬ (12 : Int) < ((f.blocks.length : Nat) : Int) := by omega
    simp (disch := omega) [round_eq, lgS, encFn, encProg, Tryz.f7, lv7, hf, hi, hiI, hbn, hbI, wrap_i64, -getElem?_pos]
  · intro i f hf hi hb _
    have hiI : ((i : Nat) : Int) < ((p.length : Nat) : Int) := by omega
    have hbn : 12 < f.blocks.length := by simpa [bigF] using hb
    have hbI : (12 : Int) < ((f.blocks.length : Nat) : Int) := by omega
    simp (disch := omega) [round_eq, lgS, encFn, encProg, Tryz.f7, lv7, hf, hi, hiI, hbn, hbI, wrap_i64, -getElem?_pos]
  · intro _
    simp (disch := omega) [round_eq, lgS, encFn, encProg, Tryz.f7, lv7, -getElem?_pos]
theorem light11 : ∃ r : Int, CX 7 [.agg (encProg p)] h = some (I r, h, []) ∧ (r = 0 ∨ r = 1) ∧ (r = 0 → ∀ f, f ∈ p → f.blocks.length ≤ 12) := by
  have hk : cfg.keep 7 = 0 := rfl
  obtain ⟨n, e1⟩ := size5 [] p hp
  simp [encProg] at e1
  by_cases hn : 100 < n
  · refine ⟨1, CI_of Tryz.func7 rfl 0 ?_, by simp, fun h => by simp at h⟩
    simp (disch := omega) [Tryz.f7, lv7, hk, encProg, e1, hn, -getElem?_pos]
  · have e := lg_loop h p hp
    simp [lgS, encProg, lpK, lv7, Tryz.f7] at e
    cases hh : findI bigF 0 p with
    | some i =>
      rw [hh] at e
      refine ⟨1, CI_of Tryz.func7 rfl 0 ?_, by simp, fun h => by simp at h⟩
      simp (disch := omega) [Tryz.f7, lv7, hk, encProg, e1, e, hn, -getElem?_pos]
    | none =>
      rw [hh] at e
      refine ⟨0, CI_of Tryz.func7 rfl 0 ?_, by simp, fun _ f hf => ?_⟩
      · simp (disch := omega) [Tryz.f7, lv7, hk, encProg, e1, e, hn, -getElem?_pos]
      · obtain ⟨i, hi⟩ := List.getElem?_of_mem hf
        have := findI_none.1 hh i f hi
        simpa [bigF] using this
end
end Go.Proofs.YtkbdhjfjbkmkcaaGreat.Abs

/- Which function has a name, as the program tells it; are two functions alike; of which type a value is, as the document tells it. -/
set_option linter.unusedSimpArgs false
set_option linter.unusedVariables false
namespace Go.Proofs.YtkbdhjfjbkmkcaaGreat.Abs
open Go Go.RowKit Go.Proofs

theorem op_func3 {P : Program} {cf : CF} {slot : Option Nat} {T : Tmps} {h : Heap} {dst : Option Nat} {ty : TypeId} {pos : String} {after : Array Edge} {guard : Option (Nat × Bool)} (f : FuncId) (c : Operand) :
    absOp P cf slot T h ⟨dst, .makeFunc (.func f) #[] #[c], ty, pos, after, guard⟩ = (match ev T c with | .one l => some (.one (.fn f [l]), h, []) | _ => none) := by
  simp only [absOp]
  cases hv : ev T c <;> simp [hv, List.mapM_cons, List.mapM_nil, pureR]
theorem fzT_fnp {h : Heap} {n0 : Nat} {L : List (Option Nat)} (f : FuncId) (i a b c : Nat) : fzT h n0 L (.fn f [.ptr i a b c]) = (fzT h n0 L (.ptr i a b c)).map fun x => .fn f [x] := by
  show (mapO (fzR h n0 L) [.ptr i a b c]).map (Leaf.fn f) = (fzR h n0 L (.ptr i a b c)).map fun x => .fn f [x]
  simp only [mapO]
  cases fzR h n0 L (.ptr i a b c) <;> rfl
theorem fzT_fni {h : Heap} {n0 : Nat} {L : List (Option Nat)} (f : FuncId) (cs : List Leaf) (o : Nat) : fzT h n0 L (.fn f [.iptr cs o]) = some (.fn f [.iptr cs o]) := rfl

theorem fzL_str {h : Heap} {n0 : Nat} {L : List (Option Nat)} (s : List UInt8) : fzL h n0 L 39 (.str s) = some (.str s) := rfl

/-! A function by its name. -/
def nmC (s : List UInt8) : Leaf := .fn 28 [.iptr [.str s] 0]
theorem find_cl (h : Heap) (f : Fn) (s : List UInt8) : CX 28 [.agg (encFn f), .one (.iptr [.str s] 0)] h = some (Bo (f.name == s), h, []) := by
  have hk : cfg.keep 28 = 0 := rfl
  refine CI_of Tryz.func28 rfl 0 ?_
  simp (disch := omega) [Tryz.f28, lz28, hk, encFn, -getElem?_pos]
def ixS (p : List Fn) (s : List UInt8) (i : Nat) (r : Int) : St := ⟨[(0, Sl (fnsOf p)), (8, I (i : Nat)), (7, I (p.length : Nat)), (1, .one (nmC s)), (4, I r)], [], []⟩
theorem ix_loop (p : List Fn) (hp : Fit p) (s : List UInt8) : lpK 27 Tryz.f27 19 0 [] (ixS p s 0 0) =
    some (match findI (nmI s) 0 p with | some i => (.ret, ixS p s i i) | none => (.exit 0, ixS p s p.length 0)) := by
  have hpf : p.length ≤ 17592186044416 := hp
  refine loop_search p (nmI s) (fun i => ixS p s i 0) (fun i => (.ret, ixS p s i i)) (.exit 0, ixS p s p.length 0) ?_ ?_ ?_
  · intro i f hf hi hb _
    have hiI : ((i : Nat) : Int) < ((p.length : Nat) : Int) := by omega
    have hb' : (f.name == s) = false := hb
    have e := fun h => find_cl h f s
    simp [encFn] at e
    simp (disch := omega) [round_eq, ixS, nmC, fzT_fni, encFn, fnsOf, Tryz.f27, lv27, hf, hi, hiI, e, hb', wrap_i64, -getElem?_pos]
  · intro i f hf hi hb _
    have hiI : ((i : Nat) : Int) < ((p.length : Nat) : Int) := by omega
    have hb' : (f.name == s) = true := hb
    have e := fun h => find_cl h f s
    simp [encFn] at e
    simp (disch := omega) [round_eq, ixS, nmC, fzT_fni, encFn, fnsOf, Tryz.f27, lv27, hf, hi, hiI, e, hb', wrap_i64, -getElem?_pos]
  · intro _
    simp (disch := omega) [round_eq, ixS, nmC, fzT_fni, encFn, fnsOf, Tryz.f27, lv27, -getElem?_pos]
def ixF (p : List Fn) (s : List UInt8) : Int := match findI (nmI s) 0 p with
  | some i => (i : Nat)
  | none => -1
theorem indexF (p : List Fn) (hp : Fit p) (s : List UInt8) : CX 27 [Sl (fnsOf p), .one (nmC s)] [] = some (I (ixF p s), [], []) := by
  have hk : cfg.keep 27 = 0 := rfl
  have e := ix_loop p hp s
  refine CI_of Tryz.func27 rfl 0 ?_
  simp [ixS, nmC, fnsOf, lpK, lv27, Tryz.f27] at e
  unfold ixF
  cases hh : findI (nmI s) 0 p with
  | none =>
    rw [hh] at e
    simp (disch := omega) [Tryz.f27, lv27, hk, nmC, fzT_fni, fnsOf, e, -getElem?_pos]
  | some i =>
    rw [hh] at e
    simp (disch := omega) [Tryz.f27, lv27, hk, nmC, fzT_fni, fnsOf, e, -getElem?_pos]
theorem findP (h : Heap) (p : List Fn) (hp : Fit p) (s : List UInt8) : CX 12 [.agg (encProg p), .one (.str s)] h = some (.tup [.agg (encFn ((findF p s).getD fnZ)), Bo (findF p s).isSome], h, []) := by
  have hk : cfg.keep 12 = 0 := rfl
  have e := indexF p hp s
  simp [fnsOf, nmC] at e
  refine CI_of Tryz.func12 rfl 0 ?_
  unfold findF
  unfold ixF at e
  cases hh : findI (nmI s) 0 p with
  | none =>
    rw [hh] at e
    simp only at e
    have hb0 : blksOf [] = [] := rfl
    simp (disch := omega) [Tryz.f12, lz12, hk, op_func3, fzT_fnp, fzL_ptr, fzL_str, elemK, encProg, fnsOf, encFn, fnZ, hb0, e, -getElem?_pos]
  | some i =>
    rw [hh] at e
    simp only at e
    obtain ⟨_, f, hf, _⟩ := findI_some hh
    simp only [Nat.sub_zero] at hf
    have hi := (List.getElem?_eq_some_iff.1 hf).1
    have hn : ¬ ((i : Nat) : Int) < 0 := by omega
    have hg : p.getD i fnZ = f := by simp [List.getD, hf]
    simp (disch := omega) [Tryz.f12, lz12, hk, op_func3, fzT_fnp, fzL_ptr, fzL_str, elemK, encProg, fnsOf, encFn, fnZ, hf, hi, hn, hg, e, -getElem?_pos]

/-! A function is like itself. -/
theorem sameI (h : Heap) (x : Ins) (hx : x.Ok) : CX 30 [.agg (encIns x), .agg (encIns x)] h = some (Bo true, h, []) := by
  have hk : cfg.keep 30 = 0 := rfl
  have h1 := fun h => ints h x.args x.args hx.args
  have h2 := fun h => ints h x.to x.to hx.to
  refine CI_of Tryz.func30 rfl 0 ?_
  simp (disch := omega) [Tryz.f30, lz30, hk, encIns, h1, h2, -getElem?_pos]
def lfV : Option Nat → V
  | none => .junk
  | some n => I (n : Nat)
def sfS (f : Fn) (i : Nat) (v6 : V) : St := ⟨[(2, .one (.ptr 0 1 0 0)), (3, .one (.ptr 1 1 0 0)), (5, I (i : Nat)), (6, v6), (4, Bo false)], [some (.row 5 [encFn f]), some (.row 5 [encFn f])], []⟩
section
variable (f : Fn) (hf : f.Ok)
include hf
theorem sf_in (k : Nat) (l : List Ins) (hl : f.blocks[k]? = some l) : lpK 14 Tryz.f14 84 1 [] (sfS f k (I (0 : Nat))) = some (.exit 2, sfS f k (I (l.length : Nat))) := by
  have q := qt14
  simp [Tryz.f14, quietFn, quietRegs] at q
  have hkl := (List.getElem?_eq_some_iff.1 hl).1
  have hlf : l.length ≤ 17592186044416 := hf.code l (List.mem_of_getElem? hl)
  have hbf : f.blocks.length ≤ 17592186044416 := hf.blocks
  refine loop_list (P := Tryz.prog) (C := cfg) (sc := runScope Tryz.prog cfg 84 0 (cfg.live 14) 0) (N := 84) (n0 := 0) (K := cfg.live 14) (c := loopAt Tryz.f14 1) l (fun (_ : Unit) _ => ())
    (fun i _ => sfS f k (I (i : Nat))) (fun _ => (.exit 2, sfS f k (I (l.length : Nat)))) (fun _ _ => True) ?_ ?_ () trivial
  · intro i _ x hx _
    have hi := (List.getElem?_eq_some_iff.1 hx).1
    have hiI : ((i : Nat) : Int) < ((l.length : Nat) : Int) := by omega
    have hxo := hf.each l (List.mem_of_getElem? hl) x (List.mem_of_getElem? hx)
    have e := fun h => sameI h x hxo
    simp [encIns] at e
    refine ⟨?_, trivial⟩
    simp (disch := omega) [round_eq, sfS, encFn, encIns, Tryz.f14, lv14, hl, hkl, hx, hi, hiI, e, q, wrap_i64, -getElem?_pos]
  · intro _ _
    refine ⟨?_, nofun⟩
    simp (disch := omega) [round_eq, sfS, encFn, Tryz.f14, lv14, hl, hkl, -getElem?_pos]
theorem sf_out : ∃ o, lpK 14 Tryz.f14 84 0 [] (sfS f 0 .junk) = some (.exit 0, sfS f f.blocks.length (lfV o)) := by
  have q := qt14
  simp [Tryz.f14, quietFn, quietRegs] at q
  have hbf : f.blocks.length ≤ 17592186044416 := hf.blocks
  have key := loop_rel (P := Tryz.prog) (C := cfg) (sc := runScope Tryz.prog cfg 84 0 (cfg.live 14) 0) (N := 84) (n0 := 0) (K := cfg.live 14) (c := loopAt Tryz.f14 0)
    (fun s : Nat × Option Nat => sfS f s.1 (lfV s.2)) (fun s => s.1 ≤ f.blocks.length) (fun s => f.blocks.length - s.1)
    (fun _ r => ∃ o, r = (.exit 0, sfS f f.blocks.length (lfV o))) ?_ (0, none) (Nat.zero_le _)
  · obtain ⟨r, e, o, rfl⟩ := key
    exact ⟨o, e⟩
  rintro ⟨i, o⟩ hi
  simp only at hi ⊢
  rcases Nat.lt_or_ge i f.blocks.length with hlt | hge
  · have hltI : ((i : Nat) : Int) < ((f.blocks.length : Nat) : Int) := by omega
    obtain ⟨l, hl⟩ : ∃ l, f.blocks[i]? = some l := ⟨_, List.getElem?_eq_getElem hlt⟩
    have hlf : l.length ≤ 17592186044416 := hf.code l (List.mem_of_getElem? hl)
    have e := sf_in f hf i l hl
    simp [sfS, encFn, lpK, lv14, Tryz.f14] at e
    refine .inl ⟨(i + 1, some l.length), ?_, hlt, by simp only; omega, fun r h => h⟩
    cases o <;> simp (disch := omega) [round_eq, sfS, lfV, encFn, Tryz.f14, lv14, hl, hlt, hltI, e, q, wrap_i64, -getElem?_pos]
  · have : i = f.blocks.length := by omega
    subst this
    refine .inr ⟨_, ?_, ?_, o, rfl⟩
    · cases o <;> simp (disch := omega) [round_eq, sfS, lfV, encFn, Tryz.f14, lv14, -getElem?_pos]
    · nofun
theorem sameFunc : CX 14 [.agg (encFn f), .agg (encFn f)] [] = some (Bo true, [], []) := by
  have hk : cfg.keep 14 = 0 := rfl
  obtain ⟨o, e⟩ := sf_out f hf
  have e2 := fun h => ints h f.params f.params hf.params
  refine CI_of Tryz.func14 rfl 0 ?_
  simp [sfS, encFn, lpK, lv14, Tryz.f14] at e
  cases o <;> simp [lfV] at e <;> simp (disch := omega) [Tryz.f14, lv14, hk, encFn, e, e2, -getElem?_pos]
theorem typeOf (h : Heap) (id : Int) : CX 16 [.agg (encFn f), I id] h = some (I (match madeF f id f.blocks.length 0 with | some r => r.2.2 | none => 0), h, []) := by
  have hk : cfg.keep 16 = 0 := rfl
  have e := fun h => made11 h f hf id f.blocks.length 0
  simp [encFn] at e
  refine CI_of Tryz.func16 rfl 0 ?_
  cases hm : madeF f id f.blocks.length 0 with
  | none =>
    simp only [hm, plcL] at e
    simp (disch := omega) [Tryz.f16, lz16, hk, encFn, e, -getElem?_pos]
  | some r =>
    obtain ⟨b, a, k⟩ := r
    simp only [hm, plcL] at e
    simp (disch := omega) [Tryz.f16, lz16, hk, encFn, e, -getElem?_pos]
end
end Go.Proofs.YtkbdhjfjbkmkcaaGreat.Abs

/- The types of values: what the program's map tells is what the document looks for. Plain. -/
set_option linter.unusedSimpArgs false
set_option linter.unusedVariables false
namespace Go.Proofs.YtkbdhjfjbkmkcaaGreat.Abs
open Go Go.RowKit Go.Proofs

theorem findI_snoc {α : Type} (p : Nat → α → Bool) (x : α) : ∀ (xs : List α) (n : Nat), findI p n (xs ++ [x]) = match findI p n xs with
    | some i => some i
    | none => if p (n + xs.length) x then some (n + xs.length) else none
  | [], n => by simp [findI]
  | y :: ys, n => by
    simp only [List.cons_append, findI, findI_snoc p x ys (n + 1), List.length_cons]
    cases p n y with
    | true => rfl
    | false =>
      simp only [Bool.false_eq_true, if_false]
      rw [show n + 1 + ys.length = n + (ys.length + 1) by omega]
theorem madeG_past {id : Int} {B a : Nat} : ∀ {ls : List (List Ins)} {k0 : Nat}, B < k0 → madeG id B a k0 ls = none
  | [], _, _ => rfl
  | l :: ls, k0, h => by rw [madeG, if_neg (by omega)]
theorem madeG_step {id : Int} {k i : Nat} {l : List Ins} {x : Ins} : ∀ {ls : List (List Ins)} {k0 : Nat}, k0 ≤ k → ls[k - k0]? = some l → l[i]? = some x →
    madeG id k (i + 1) k0 ls = match madeG id k i k0 ls with
      | some r => some r
      | none => if mkI id 0 x then some (k, i, makesF x.op x.ty) else none
  | [], k0, _, h, _ => by simp at h
  | l0 :: ls, k0, hk, h, hx => by
    rw [madeG, madeG, if_pos hk, if_pos hk]
    rcases Nat.lt_or_ge k0 k with hlt | hge
    · have hm : ∀ a, mdL k a k0 l0 = l0 := fun a => by unfold mdL; rw [if_pos hlt]
      rw [hm, hm]
      cases findI (mkI id) 0 l0 with
      | some j => rfl
      | none =>
        rw [show k - k0 = (k - (k0 + 1)) + 1 by omega, List.getElem?_cons_succ] at h
        exact madeG_step (by omega) h hx
    · have : k0 = k := by omega
      subst this
      rw [Nat.sub_self] at h
      simp only [List.getElem?_cons_zero, Option.some.injEq] at h
      subst h
      have hm : ∀ a, mdL k0 a k0 l0 = l0.take a := fun a => by unfold mdL; rw [if_neg (by omega)]
      have hi := (List.getElem?_eq_some_iff.1 hx).1
      rw [hm, hm, List.take_add_one, hx, Option.toList_some, findI_snoc, madeG_past (by omega), madeG_past (by omega)]
      have hl : (l0.take i).length = i := by simp; omega
      cases findI (mkI id) 0 (l0.take i) with
      | some j => rfl
      | none =>
        simp only [hl, Nat.zero_add]
        have e : mkI id i x = mkI id 0 x := rfl
        rw [e]
        cases mkI id 0 x with
        | true => simp only [if_true, kndAt_of hx]
        | false => rfl
theorem madeG_next {id : Int} {k : Nat} {l : List Ins} : ∀ {ls : List (List Ins)} {k0 : Nat}, k0 ≤ k → ls[k - k0]? = some l → madeG id (k + 1) 0 k0 ls = madeG id k l.length k0 ls
  | [], k0, _, h => by simp at h
  | l0 :: ls, k0, hk, h => by
    rw [madeG, madeG, if_pos (by omega), if_pos hk]
    have hm1 : mdL (k + 1) 0 k0 l0 = l0 := by unfold mdL; rw [if_pos (by omega)]
    rcases Nat.lt_or_ge k0 k with hlt | hge
    · have hm : mdL k l.length k0 l0 = l0 := by unfold mdL; rw [if_pos hlt]
      rw [hm, hm1]
      cases findI (mkI id) 0 l0 with
      | some j => rfl
      | none =>
        rw [show k - k0 = (k - (k0 + 1)) + 1 by omega, List.getElem?_cons_succ] at h
        exact madeG_next (by omega) h
    · have : k0 = k := by omega
      subst this
      rw [Nat.sub_self] at h
      simp only [List.getElem?_cons_zero, Option.some.injEq] at h
      subst h
      have hm : mdL k0 l0.length k0 l0 = l0 := by unfold mdL; rw [if_neg (by omega), List.take_length]
      rw [hm, hm1, madeG_past (ls := ls) (B := k0) (by omega)]
      cases findI (mkI id) 0 l0 with
      | some j => rfl
      | none =>
        cases ls with
        | nil => rfl
        | cons l1 ls =>
          rw [madeG, if_pos (Nat.le_refl _)]
          have hm2 : mdL (k0 + 1) 0 (k0 + 1) l1 = [] := by unfold mdL; rw [if_neg (by omega), List.take_zero]
          rw [hm2, madeG_past (by omega)]
          rfl
theorem madeG_zero {id : Int} (ls : List (List Ins)) : madeG id 0 0 0 ls = none := by
  cases ls with
  | nil => rfl
  | cons l ls =>
    rw [madeG, if_pos (Nat.le_refl _)]
    have hm : mdL 0 0 0 l = [] := by unfold mdL; rw [if_neg (by omega), List.take_zero]
    rw [hm, madeG_past (by omega)]
    rfl
def kdF (f : Fn) (id : Int) (k i : Nat) : Option V := (madeF f id k i).map fun r => I r.2.2
theorem kdF_zero (f : Fn) (id : Int) : kdF f id 0 0 = if 0 ≤ id ∧ id < f.params.length then some (I (f.params.getD id.toNat 0)) else none := by
  unfold kdF madeF
  split
  · rfl
  · rw [madeG_zero]; rfl
theorem kdF_next (f : Fn) (id : Int) {k : Nat} {l : List Ins} (hl : f.blocks[k]? = some l) : kdF f id (k + 1) 0 = kdF f id k l.length := by
  unfold kdF madeF
  rw [madeG_next (Nat.zero_le _) (by simpa using hl)]
theorem kdF_step (f : Fn) (id : Int) {k i : Nat} {l : List Ins} {x : Ins} (hl : f.blocks[k]? = some l) (hx : l[i]? = some x) : kdF f id k (i + 1) = match kdF f id k i with
    | some v => some v
    | none => if mkI id 0 x then some (I (makesF x.op x.ty)) else none := by
  unfold kdF madeF
  split
  · rfl
  · rw [madeG_step (Nat.zero_le _) (by simpa using hl) hx]
    cases madeG id k i 0 f.blocks with
    | some r => rfl
    | none =>
      simp only [Option.map_none]
      cases mkI id 0 x <;> rfl
theorem par_types (f : Fn) : ∀ (l : List Int) (s : Nat × Nat × Ents), f.params.drop s.1 = l → s.1 ≤ f.params.length →
    (∀ id, mgetI id s.2.2 = if 0 ≤ id ∧ id < (s.1 : Nat) then some (I (f.params.getD id.toNat 0)) else none) →
    ∀ id, mgetI id (l.foldl parT s).2.2 = if 0 ≤ id ∧ id < f.params.length then some (I (f.params.getD id.toNat 0)) else none
  | [], s, hd, hle, h, id => by
    have : s.1 = f.params.length := by
      have := congrArg List.length hd
      simp at this; omega
    rw [List.foldl_nil, h id, this]
  | t :: l, s, hd, hle, h, id => by
    have hlt : s.1 < f.params.length := by
      have := congrArg List.length hd
      simp at this; omega
    have ht : f.params[s.1]? = some t := by
      have := congrArg (fun l => l[0]?) hd
      simpa using this
    rw [List.foldl_cons]
    refine par_types f l (parT s t) ?_ hlt (fun id => ?_) id
    · show f.params.drop (s.1 + 1) = l
      rw [← List.drop_drop, hd]; rfl
    · show mgetI id (mputI (s.1 : Nat) (I t) s.2.1 s.2.2) = _
      rw [mget_put, h id]
      show _ = if 0 ≤ id ∧ id < ((s.1 + 1 : Nat) : Int) then some (I (f.params.getD id.toNat 0)) else none
      by_cases he : id = (s.1 : Nat)
      · subst he
        rw [if_pos rfl, if_pos (by omega)]
        simp [List.getD, ht]
      · rw [if_neg he]
        by_cases hc : 0 ≤ id ∧ id < (s.1 : Nat)
        · rw [if_pos hc, if_pos (by omega)]
        · rw [if_neg hc, if_neg (by omega)]
section
variable (f : Fn) (hv : ∀ (k i : Nat) l x, f.blocks[k]? = some l → l[i]? = some x → makesF x.op x.ty ≠ 0 → madeF f x.id k i = none)
include hv
theorem code_types (k : Nat) (l : List Ins) (hl : f.blocks[k]? = some l) : ∀ (r : List Ins) (i : Nat) (s : Nat × Ents), l.drop i = r → i ≤ l.length → (∀ id, mgetI id s.2 = kdF f id k i) → ∀ id, mgetI id (r.foldl insT s).2 = kdF f id k l.length
  | [], i, s, hd, hle, h, id => by
    have : i = l.length := by
      have := congrArg List.length hd
      simp at this; omega
    rw [List.foldl_nil, h id, this]
  | x :: r, i, s, hd, hle, h, id => by
    have hlt : i < l.length := by
      have := congrArg List.length hd
      simp at this; omega
    have hx : l[i]? = some x := by
      have := congrArg (fun l => l[0]?) hd
      simpa using this
    rw [List.foldl_cons]
    refine code_types k l hl r (i + 1) (insT s x) (by rw [← List.drop_drop, hd]; rfl) hlt (fun id => ?_) id
    rw [kdF_step f id hl hx]
    unfold insT
    cases hm : (makesF x.op x.ty != 0) with
    | false =>
      simp only [Bool.false_eq_true, if_false, h id]
      have : mkI id 0 x = false := by simp [mkI, hm]
      rw [this]
      cases kdF f id k i <;> rfl
    | true =>
      have hmade := hv k i l x hl hx (by simpa using hm)
      simp only [if_true]
      show mgetI id (mputI x.id (I (makesF x.op x.ty)) s.1 s.2) = _
      rw [mget_put, h id]
      by_cases he : id = x.id
      · subst he
        have h0 : kdF f x.id k i = none := by unfold kdF; rw [hmade]; rfl
        rw [if_pos rfl, h0]
        have : mkI x.id 0 x = true := by simp [mkI, hm]
        simp only [this, if_true]
      · rw [if_neg he]
        have : mkI id 0 x = false := by simp [mkI, Ne.symm he]
        rw [this]
        cases kdF f id k i <;> rfl
theorem blk_types : ∀ (r : List (List Ins)) (k : Nat) (s : Nat × Ents), f.blocks.drop k = r → k ≤ f.blocks.length → (∀ id, mgetI id s.2 = kdF f id k 0) → ∀ id, mgetI id (r.foldl blkT s).2 = kdF f id f.blocks.length 0
  | [], k, s, hd, hle, h, id => by
    have : k = f.blocks.length := by
      have := congrArg List.length hd
      simp at this; omega
    rw [List.foldl_nil, h id, this]
  | l :: r, k, s, hd, hle, h, id => by
    have hlt : k < f.blocks.length := by
      have := congrArg List.length hd
      simp at this; omega
    have hl : f.blocks[k]? = some l := by
      have := congrArg (fun l => l[0]?) hd
      simpa using this
    rw [List.foldl_cons]
    refine blk_types r (k + 1) (blkT s l) (by rw [← List.drop_drop, hd]; rfl) hlt (fun id => ?_) id
    rw [kdF_next f id hl]
    exact code_types f hv k l hl l 0 s rfl (Nat.zero_le _) h id
theorem types_made (id : Int) : mgetI id (typesE f) = kdF f id f.blocks.length 0 := by
  refine blk_types f hv f.blocks 0 _ rfl (Nat.zero_le _) (fun id => ?_) id
  rw [kdF_zero]
  exact par_types f f.params (0, 0, []) rfl (Nat.zero_le _) (fun id => by rw [if_neg (fun hh => by have h1 := hh.1; have h2 := hh.2; simp only at h2; omega)]; rfl) id
end
end Go.Proofs.YtkbdhjfjbkmkcaaGreat.Abs

/- The law of the types of values, on the machine. -/
set_option linter.unusedSimpArgs false
set_option linter.unusedVariables false
namespace Go.Proofs.YtkbdhjfjbkmkcaaGreat.Abs
open Go Go.RowKit Go.Proofs

def tyV (f : Fn) (id : Int) : Int := match madeF f id f.blocks.length 0 with
  | some r => r.2.2
  | none => 0
theorem once_of {p : List Fn} {f : Fn} {src : Bool} (h : FuncOK p f src) : ∀ (k i : Nat) l x, f.blocks[k]? = some l → l[i]? = some x → makesF x.op x.ty ≠ 0 → madeF f x.id k i = none := by
  intro k i l x hl hx hm
  have hv := h.value k i l x hl hx
  unfold valueF at hv
  split at hv
  · cases hv
  · rename_i hc
    have hm' : (makesF x.op x.ty != 0) = true := by simpa using hm
    rw [hm', Bool.true_and] at hc
    cases h : madeF f x.id k i with
    | none => rfl
    | some r => rw [h] at hc; exact (hc rfl).elim
theorem look_types {f : Fn} (hf : f.Ok) (hv : ∀ (k i : Nat) l x, f.blocks[k]? = some l → l[i]? = some x → makesF x.op x.ty ≠ 0 → madeF f x.id k i = none) (id : Int) (h : Heap) :
    lookupV Tryz.prog h 40 (.one (imI false (typesE f))) (I id) false = some (I (tyV f id)) := by
  rw [look_im1 mpt40 (show treeM1 (typesE f) = true from (typesE_ok f hf).2), types_made f hv id]
  unfold kdF tyV
  cases madeF f id f.blocks.length 0 with
  | none => simp
  | some r => rfl

def wtS (h : Heap) (p : List Fn) (id : Int) (i : Nat) : St := ⟨[(3, .one (.ptr h.length 1 0 0)), (11, I (i : Nat)), (2, I id), (6, Bo false)], h ++ [some (.row 1 [encProg p])], []⟩
section
variable (h : Heap) (p : List Fn) (hp : POk p)
include hp
theorem wt_loop (hall : ∀ f, f ∈ p → FuncOK p f false) (id : Int) : lpK 4 Tryz.f4 72 0 h (wtS h p id 0) = some (.exit 0, wtS h p id p.length) := by
  have hpf : p.length ≤ 17592186044416 := hp.fit
  have q := qt4
  simp [Tryz.f4, quietFn, quietRegs] at q
  refine loop_list (P := Tryz.prog) (C := cfg) (sc := runScope Tryz.prog cfg 72 h.length (cfg.live 4) 0) (N := 72) (n0 := h.length) (K := cfg.live 4) (c := loopAt Tryz.f4 0) p (fun (_ : Unit) _ => ())
    (fun i _ => wtS h p id i) (fun _ => (.exit 0, wtS h p id p.length)) (fun _ _ => True) ?_ ?_ () trivial
  · intro i _ f hf _
    have hi := (List.getElem?_eq_some_iff.1 hf).1
    have hiI : ((i : Nat) : Int) < ((p.length : Nat) : Int) := by omega
    have hfm := List.mem_of_getElem? hf
    have hfo := hp.each f hfm
    have e1 := fun h => typesP h f hfo
    have e2 : ∀ h, CX 16 [.agg (encFn f), I id] h = some (I (tyV f id), h, []) := fun h => typeOf f hfo h id
    have e3 := look_types hfo (once_of (hall f hfm)) id
    simp [encFn] at e1 e2
    refine ⟨?_, trivial⟩
    simp (disch := omega) [round_eq, wtS, encFn, encProg, Tryz.f4, lv4, hf, hi, hiI, e1, e2, e3, q, wrap_i64, -getElem?_pos]
  · intro _ _
    refine ⟨?_, nofun⟩
    simp (disch := omega) [round_eq, wtS, encFn, encProg, Tryz.f4, lv4, -getElem?_pos]
theorem wellTypes (hw : CX 8 [] [] = some (Bo true, [], [])) (s : List UInt8) (id : Int) : CX 4 [.agg (encProg p), .one (.str s), I id] h = some (Bo true, h, []) := by
  have hk : cfg.keep 4 = 0 := rfl
  obtain ⟨r1, e1, g0, g1⟩ := light11 [] p hp
  obtain ⟨c2, a2, e2, g2⟩ := check11 [] p hp false
  simp [encProg] at e1 e2
  refine CI_of Tryz.func4 rfl 0 ?_
  rcases g0 with rfl | rfl
  · by_cases hl : 100 < ((s.length : Nat) : Int)
    · simp (disch := omega) [Tryz.f4, lv4, hk, encProg, e1, hl, hw, -getElem?_pos]
    · by_cases hc : c2 = 0
      · subst hc
        have hall := (g2 rfl).funcs
        obtain ⟨b, hb⟩ : ∃ b, b = (findF p s).isSome := ⟨_, rfl⟩
        obtain ⟨g, hg⟩ : ∃ g, g = (findF p s).getD fnZ := ⟨_, rfl⟩
        have hgo : g.Ok := by
          cases hh : findF p s with
          | none => rw [hg, hh]; exact ⟨by simp [fnZ, Fit], by simp [fnZ, Fit], by simp [fnZ], by simp [fnZ]⟩
          | some f => rw [hg, hh]; exact hp.each f (findF_some hh).1
        have e3 := fun h => findP h p hp.fit s
        have e4 := fun h => find11 h p hp.fit s
        have e5 := sameFunc g hgo
        have e6 := wt_loop h p hp hall id
        simp only [← hb, ← hg] at e3 e4
        simp [encProg, encFn] at e3 e4 e5
        simp [wtS, encProg, lpK, lv4, Tryz.f4] at e6
        simp (disch := omega) [Tryz.f4, lv4, hk, encProg, e1, e2, e3, e4, e5, e6, hl, hw, -getElem?_pos]
      · have hcB : (c2 != 0) = true := by simp [hc]
        simp (disch := omega) [Tryz.f4, lv4, hk, encProg, e1, e2, hl, hc, hcB, hw, -getElem?_pos]
  · simp (disch := omega) [Tryz.f4, lv4, hk, encProg, e1, hw, -getElem?_pos]
end
end Go.Proofs.YtkbdhjfjbkmkcaaGreat.Abs

/- The tables are such as they are taken to be, where no function is told by hand, and no iterator is known; programs as they are handed in. -/
set_option linter.unusedSimpArgs false
set_option linter.unusedVariables false
namespace Go.Proofs.YtkbdhjfjbkmkcaaGreat.Abs
open Go Go.RowKit Go.Proofs

theorem cfg_ok : CfgOK Tryz.prog cfg := ⟨fun f => it_all (tab := liveTab) (bs := bwdTab) (by decide +kernel) (fun b hb => by simp [bwdTab] at hb) f, fun f args v h B M H w vs hI hA => by cases h⟩

def tProg : Ty := .struct [.slice tFn]
theorem typed_prog {v : V} (h : TypedV tProg v) : ∃ p : List Fn, v = .agg (encProg p) ∧ POk p := by
  obtain ⟨ls, rfl, h⟩ := h
  simp only [TypedAll] at h
  obtain ⟨_, _, rfl, g1, rfl⟩ := h
  unfold Typed at g1
  obtain ⟨es, rfl, h1, h2⟩ := g1
  obtain ⟨fs, rfl, hl⟩ := list_of' (f := fun f : { f : Fn // f.Ok } => encFn f.1) (es := es) fun x hx => by
    obtain ⟨f, hf, ho⟩ := typed_fn (v := .agg x) ⟨x, rfl, by simpa only [Typed, tFn] using h2 x hx⟩
    cases hf
    exact ⟨⟨f, ho⟩, rfl⟩
  refine ⟨fs.map (·.1), by simp [encProg, fnsOf, List.map_map, Function.comp_def], ⟨?_, fun f hf => ?_⟩⟩
  · have := reach_fit' (xs := fs) (b := 16) (by omega) (by rw [hl]; exact h1)
    simpa [Fit] using this
  · obtain ⟨y, _, rfl⟩ := List.mem_map.1 hf; exact y.2
end Go.Proofs.YtkbdhjfjbkmkcaaGreat.Abs

/- The example of the law of programs that may be run, as the machine runs it: its calls, one by one. -/
set_option maxRecDepth 100000
namespace Go.Proofs.YtkbdhjfjbkmkcaaGreat.Abs
open Go Go.RowKit Go.Proofs

def wk0 : Tab := []
theorem wk0_ok : TabOK Tryz.prog cfg 0 wk0 := TabOK.nil _ _
def wka1 : List V := [(.one (.str [102, 117, 110, 99, 32, 109, 97, 105, 110, 40, 105, 41, 32, 105, 32, 123, 32, 98, 48, 58, 32, 37, 50, 32, 61, 32, 110, 101, 119, 32, 105, 112, 32, 115, 116, 111, 114, 101, 46, 112, 32, 37, 50, 32, 49, 32, 37, 50, 32,
  98, 114, 32, 98, 49, 32, 98, 49, 58, 32, 37, 51, 32, 61, 32, 112, 104, 105, 46, 105, 32, 98, 48, 32, 37, 48, 32, 98, 49, 32, 37, 52, 32, 37, 52, 32, 61, 32, 99, 97, 108, 108, 46, 105, 32, 102, 32, 37, 50, 32, 105, 102, 32, 37, 51,
  32, 98, 49, 32, 98, 50, 32, 98, 50, 58, 32, 114, 101, 116, 32, 37, 52, 32, 125, 32, 102, 117, 110, 99, 32, 102, 40, 112, 41, 32, 105, 32, 123, 32, 98, 48, 58, 32, 37, 49, 32, 61, 32, 108, 111, 97, 100, 46, 105, 32, 37, 48, 32, 48,
  32, 114, 101, 116, 32, 37, 49, 32, 125]))]
def wkr1 : V × Heap × List Nat := ((.tup [(.agg [(.isl [[(.str [109, 97, 105, 110]), (.isl [[(.int .i64 1)]]), (.int .i64 1), (.isl [[(.isl [[(.int .i64 10), (.int .i64 2), (.int .i64 0), (.int .i64 0), (.isl []), (.isl []), (.str [105, 112]), (.int .i64 21)],
  [(.int .i64 14), (.int .i64 (-1)), (.int .i64 1), (.int .i64 0), (.isl [[(.int .i64 2)], [(.int .i64 2)]]), (.isl []), (.str []), (.int .i64 33)], [(.int .i64 26), (.int .i64 (-1)), (.int .i64 0), (.int .i64 0), (.isl []), (.isl
  [[(.int .i64 1)]]), (.str []), (.int .i64 49)]])], [(.isl [[(.int .i64 20), (.int .i64 3), (.int .i64 0), (.int .i64 1), (.isl [[(.int .i64 0)], [(.int .i64 4)]]), (.isl [[(.int .i64 0)], [(.int .i64 1)]]), (.str []), (.int .i64
  59)], [(.int .i64 21), (.int .i64 4), (.int .i64 0), (.int .i64 1), (.isl [[(.int .i64 2)]]), (.isl []), (.str [102]), (.int .i64 82)], [(.int .i64 27), (.int .i64 (-1)), (.int .i64 0), (.int .i64 0), (.isl [[(.int .i64 3)]]),
  (.isl [[(.int .i64 1)], [(.int .i64 2)]]), (.str []), (.int .i64 99)]])], [(.isl [[(.int .i64 28), (.int .i64 (-1)), (.int .i64 0), (.int .i64 0), (.isl [[(.int .i64 4)]]), (.isl []), (.str []), (.int .i64 115)]])]]), (.int .i64
  0)], [(.str [102]), (.isl [[(.int .i64 2)]]), (.int .i64 1), (.isl [[(.isl [[(.int .i64 11), (.int .i64 1), (.int .i64 0), (.int .i64 0), (.isl [[(.int .i64 0)]]), (.isl []), (.str []), (.int .i64 142)], [(.int .i64 28), (.int
  .i64 (-1)), (.int .i64 0), (.int .i64 0), (.isl [[(.int .i64 1)]]), (.isl []), (.str []), (.int .i64 159)]])]]), (.int .i64 124)]])]), (.agg [(.int .i64 0), (.int .i64 0)])]), [], [])
def wk1 : Tab := (20, wka1, [], wkr1) :: wk0
theorem wk1_ok : TabOK Tryz.prog cfg 300 wk1 := Fast.addF (n := 300) wk0_ok (by decide +kernel)
def wkh1 : Heap := [some (.row 1 [[(.isl [[(.str [109, 97, 105, 110]), (.isl [[(.int .i64 1)]]), (.int .i64 1), (.isl [[(.isl [[(.int .i64 10), (.int .i64 2), (.int .i64 0), (.int .i64 0), (.isl []), (.isl []), (.str [105, 112]), (.int .i64 21)],
  [(.int .i64 14), (.int .i64 (-1)), (.int .i64 1), (.int .i64 0), (.isl [[(.int .i64 2)], [(.int .i64 2)]]), (.isl []), (.str []), (.int .i64 33)], [(.int .i64 26), (.int .i64 (-1)), (.int .i64 0), (.int .i64 0), (.isl []), (.isl
  [[(.int .i64 1)]]), (.str []), (.int .i64 49)]])], [(.isl [[(.int .i64 20), (.int .i64 3), (.int .i64 0), (.int .i64 1), (.isl [[(.int .i64 0)], [(.int .i64 4)]]), (.isl [[(.int .i64 0)], [(.int .i64 1)]]), (.str []), (.int .i64
  59)], [(.int .i64 21), (.int .i64 4), (.int .i64 0), (.int .i64 1), (.isl [[(.int .i64 2)]]), (.isl []), (.str [102]), (.int .i64 82)], [(.int .i64 27), (.int .i64 (-1)), (.int .i64 0), (.int .i64 0), (.isl [[(.int .i64 3)]]),
  (.isl [[(.int .i64 1)], [(.int .i64 2)]]), (.str []), (.int .i64 99)]])], [(.isl [[(.int .i64 28), (.int .i64 (-1)), (.int .i64 0), (.int .i64 0), (.isl [[(.int .i64 4)]]), (.isl []), (.str []), (.int .i64 115)]])]]), (.int .i64
  0)], [(.str [102]), (.isl [[(.int .i64 2)]]), (.int .i64 1), (.isl [[(.isl [[(.int .i64 11), (.int .i64 1), (.int .i64 0), (.int .i64 0), (.isl [[(.int .i64 0)]]), (.isl []), (.str []), (.int .i64 142)], [(.int .i64 28), (.int
  .i64 (-1)), (.int .i64 0), (.int .i64 0), (.isl [[(.int .i64 1)]]), (.isl []), (.str []), (.int .i64 159)]])]]), (.int .i64 124)]])]]), some (.row 2 [[(.int .i64 0), (.int .i64 0)]])]
def wka2 : List V := [(.one (.str [102, 117, 110, 99, 32, 109, 97, 105, 110, 40, 41, 32, 110, 32, 123, 32, 98, 48, 58, 32, 111, 117, 116, 32, 37, 49, 32, 37, 49, 32, 61, 32, 99, 111, 110, 115, 116, 32, 50, 32, 114, 101, 116, 32, 125]))]
def wkr2 : V × Heap × List Nat := ((.tup [(.agg [(.isl [[(.str [109, 97, 105, 110]), (.isl []), (.int .i64 0), (.isl [[(.isl [[(.int .i64 22), (.int .i64 (-1)), (.int .i64 0), (.int .i64 0), (.isl [[(.int .i64 1)]]), (.isl []), (.str []), (.int .i64 20)], [(.int
  .i64 1), (.int .i64 1), (.int .i64 2), (.int .i64 0), (.isl []), (.isl []), (.str []), (.int .i64 27)], [(.int .i64 28), (.int .i64 (-1)), (.int .i64 0), (.int .i64 0), (.isl []), (.isl []), (.str []), (.int .i64 40)]])]]), (.int
  .i64 0)]])]), (.agg [(.int .i64 0), (.int .i64 0)])]), wkh1, [])
def wk2 : Tab := (20, wka2, wkh1, wkr2) :: wk1
theorem wk2_ok : TabOK Tryz.prog cfg 600 wk2 := Fast.addF (n := 300) wk1_ok (by decide +kernel)
def wkh2 : Heap := [some (.row 1 [[(.isl [[(.str [109, 97, 105, 110]), (.isl [[(.int .i64 1)]]), (.int .i64 1), (.isl [[(.isl [[(.int .i64 10), (.int .i64 2), (.int .i64 0), (.int .i64 0), (.isl []), (.isl []), (.str [105, 112]), (.int .i64 21)],
  [(.int .i64 14), (.int .i64 (-1)), (.int .i64 1), (.int .i64 0), (.isl [[(.int .i64 2)], [(.int .i64 2)]]), (.isl []), (.str []), (.int .i64 33)], [(.int .i64 26), (.int .i64 (-1)), (.int .i64 0), (.int .i64 0), (.isl []), (.isl
  [[(.int .i64 1)]]), (.str []), (.int .i64 49)]])], [(.isl [[(.int .i64 20), (.int .i64 3), (.int .i64 0), (.int .i64 1), (.isl [[(.int .i64 0)], [(.int .i64 4)]]), (.isl [[(.int .i64 0)], [(.int .i64 1)]]), (.str []), (.int .i64
  59)], [(.int .i64 21), (.int .i64 4), (.int .i64 0), (.int .i64 1), (.isl [[(.int .i64 2)]]), (.isl []), (.str [102]), (.int .i64 82)], [(.int .i64 27), (.int .i64 (-1)), (.int .i64 0), (.int .i64 0), (.isl [[(.int .i64 3)]]),
  (.isl [[(.int .i64 1)], [(.int .i64 2)]]), (.str []), (.int .i64 99)]])], [(.isl [[(.int .i64 28), (.int .i64 (-1)), (.int .i64 0), (.int .i64 0), (.isl [[(.int .i64 4)]]), (.isl []), (.str []), (.int .i64 115)]])]]), (.int .i64
  0)], [(.str [102]), (.isl [[(.int .i64 2)]]), (.int .i64 1), (.isl [[(.isl [[(.int .i64 11), (.int .i64 1), (.int .i64 0), (.int .i64 0), (.isl [[(.int .i64 0)]]), (.isl []), (.str []), (.int .i64 142)], [(.int .i64 28), (.int
  .i64 (-1)), (.int .i64 0), (.int .i64 0), (.isl [[(.int .i64 1)]]), (.isl []), (.str []), (.int .i64 159)]])]]), (.int .i64 124)]])]]), some (.row 2 [[(.int .i64 0), (.int .i64 0)]]), some (.row 1 [[(.isl [[(.str [109, 97, 105,
  110]), (.isl []), (.int .i64 0), (.isl [[(.isl [[(.int .i64 22), (.int .i64 (-1)), (.int .i64 0), (.int .i64 0), (.isl [[(.int .i64 1)]]), (.isl []), (.str []), (.int .i64 20)], [(.int .i64 1), (.int .i64 1), (.int .i64 2), (.int
  .i64 0), (.isl []), (.isl []), (.str []), (.int .i64 27)], [(.int .i64 28), (.int .i64 (-1)), (.int .i64 0), (.int .i64 0), (.isl []), (.isl []), (.str []), (.int .i64 40)]])]]), (.int .i64 0)]])]]), some (.row 2 [[(.int .i64 0),
  (.int .i64 0)]])]
def wka3 : List V := [(.one (.str [102, 117, 110, 99, 32, 109, 97, 105, 110, 40, 41, 32, 110, 32, 123, 32, 98, 48, 58, 32, 112, 111, 108, 108, 32, 49, 32, 114, 101, 116, 32, 125]))]
def wkr3 : V × Heap × List Nat := ((.tup [(.agg [(.isl [[(.str [109, 97, 105, 110]), (.isl []), (.int .i64 0), (.isl [[(.isl [[(.int .i64 23), (.int .i64 (-1)), (.int .i64 1), (.int .i64 0), (.isl []), (.isl []), (.str []), (.int .i64 20)], [(.int .i64 28), (.int
  .i64 (-1)), (.int .i64 0), (.int .i64 0), (.isl []), (.isl []), (.str []), (.int .i64 27)]])]]), (.int .i64 0)]])]), (.agg [(.int .i64 0), (.int .i64 0)])]), wkh2, [])
def wk3 : Tab := (20, wka3, wkh2, wkr3) :: wk2
theorem wk3_ok : TabOK Tryz.prog cfg 900 wk3 := Fast.addF (n := 300) wk2_ok (by decide +kernel)
def wkh3 : Heap := [some (.row 1 [[(.isl [[(.str [109, 97, 105, 110]), (.isl [[(.int .i64 1)]]), (.int .i64 1), (.isl [[(.isl [[(.int .i64 10), (.int .i64 2), (.int .i64 0), (.int .i64 0), (.isl []), (.isl []), (.str [105, 112]), (.int .i64 21)],
  [(.int .i64 14), (.int .i64 (-1)), (.int .i64 1), (.int .i64 0), (.isl [[(.int .i64 2)], [(.int .i64 2)]]), (.isl []), (.str []), (.int .i64 33)], [(.int .i64 26), (.int .i64 (-1)), (.int .i64 0), (.int .i64 0), (.isl []), (.isl
  [[(.int .i64 1)]]), (.str []), (.int .i64 49)]])], [(.isl [[(.int .i64 20), (.int .i64 3), (.int .i64 0), (.int .i64 1), (.isl [[(.int .i64 0)], [(.int .i64 4)]]), (.isl [[(.int .i64 0)], [(.int .i64 1)]]), (.str []), (.int .i64
  59)], [(.int .i64 21), (.int .i64 4), (.int .i64 0), (.int .i64 1), (.isl [[(.int .i64 2)]]), (.isl []), (.str [102]), (.int .i64 82)], [(.int .i64 27), (.int .i64 (-1)), (.int .i64 0), (.int .i64 0), (.isl [[(.int .i64 3)]]),
  (.isl [[(.int .i64 1)], [(.int .i64 2)]]), (.str []), (.int .i64 99)]])], [(.isl [[(.int .i64 28), (.int .i64 (-1)), (.int .i64 0), (.int .i64 0), (.isl [[(.int .i64 4)]]), (.isl []), (.str []), (.int .i64 115)]])]]), (.int .i64
  0)], [(.str [102]), (.isl [[(.int .i64 2)]]), (.int .i64 1), (.isl [[(.isl [[(.int .i64 11), (.int .i64 1), (.int .i64 0), (.int .i64 0), (.isl [[(.int .i64 0)]]), (.isl []), (.str []), (.int .i64 142)], [(.int .i64 28), (.int
  .i64 (-1)), (.int .i64 0), (.int .i64 0), (.isl [[(.int .i64 1)]]), (.isl []), (.str []), (.int .i64 159)]])]]), (.int .i64 124)]])]]), some (.row 2 [[(.int .i64 0), (.int .i64 0)]]), some (.row 1 [[(.isl [[(.str [109, 97, 105,
  110]), (.isl []), (.int .i64 0), (.isl [[(.isl [[(.int .i64 22), (.int .i64 (-1)), (.int .i64 0), (.int .i64 0), (.isl [[(.int .i64 1)]]), (.isl []), (.str []), (.int .i64 20)], [(.int .i64 1), (.int .i64 1), (.int .i64 2), (.int
  .i64 0), (.isl []), (.isl []), (.str []), (.int .i64 27)], [(.int .i64 28), (.int .i64 (-1)), (.int .i64 0), (.int .i64 0), (.isl []), (.isl []), (.str []), (.int .i64 40)]])]]), (.int .i64 0)]])]]), some (.row 2 [[(.int .i64 0),
  (.int .i64 0)]]), some (.row 1 [[(.isl [[(.str [109, 97, 105, 110]), (.isl []), (.int .i64 0), (.isl [[(.isl [[(.int .i64 23), (.int .i64 (-1)), (.int .i64 1), (.int .i64 0), (.isl []), (.isl []), (.str []), (.int .i64 20)],
  [(.int .i64 28), (.int .i64 (-1)), (.int .i64 0), (.int .i64 0), (.isl []), (.isl []), (.str []), (.int .i64 27)]])]]), (.int .i64 0)]])]]), some (.row 2 [[(.int .i64 0), (.int .i64 0)]]), some (.row 5 [[(.str [102]), (.isl
  [[(.int .i64 2)]]), (.int .i64 1), (.isl [[(.isl [[(.int .i64 11), (.int .i64 1), (.int .i64 0), (.int .i64 0), (.isl [[(.int .i64 0)]]), (.isl []), (.str []), (.int .i64 142)], [(.int .i64 28), (.int .i64 (-1)), (.int .i64 0),
  (.int .i64 0), (.isl [[(.int .i64 1)]]), (.isl []), (.str []), (.int .i64 159)]])]]), (.int .i64 124)]])]
def wka4 : List V := [(.agg [(.isl [[(.str [109, 97, 105, 110]), (.isl [[(.int .i64 1)]]), (.int .i64 1), (.isl [[(.isl [[(.int .i64 10), (.int .i64 2), (.int .i64 0), (.int .i64 0), (.isl []), (.isl []), (.str [105, 112]), (.int .i64 21)], [(.int
  .i64 14), (.int .i64 (-1)), (.int .i64 1), (.int .i64 0), (.isl [[(.int .i64 2)], [(.int .i64 2)]]), (.isl []), (.str []), (.int .i64 33)], [(.int .i64 26), (.int .i64 (-1)), (.int .i64 0), (.int .i64 0), (.isl []), (.isl [[(.int
  .i64 1)]]), (.str []), (.int .i64 49)]])], [(.isl [[(.int .i64 20), (.int .i64 3), (.int .i64 0), (.int .i64 1), (.isl [[(.int .i64 0)], [(.int .i64 4)]]), (.isl [[(.int .i64 0)], [(.int .i64 1)]]), (.str []), (.int .i64 59)],
  [(.int .i64 21), (.int .i64 4), (.int .i64 0), (.int .i64 1), (.isl [[(.int .i64 2)]]), (.isl []), (.str [102]), (.int .i64 82)], [(.int .i64 27), (.int .i64 (-1)), (.int .i64 0), (.int .i64 0), (.isl [[(.int .i64 3)]]), (.isl
  [[(.int .i64 1)], [(.int .i64 2)]]), (.str []), (.int .i64 99)]])], [(.isl [[(.int .i64 28), (.int .i64 (-1)), (.int .i64 0), (.int .i64 0), (.isl [[(.int .i64 4)]]), (.isl []), (.str []), (.int .i64 115)]])]]), (.int .i64 0)],
  [(.str [102]), (.isl [[(.int .i64 2)]]), (.int .i64 1), (.isl [[(.isl [[(.int .i64 11), (.int .i64 1), (.int .i64 0), (.int .i64 0), (.isl [[(.int .i64 0)]]), (.isl []), (.str []), (.int .i64 142)], [(.int .i64 28), (.int .i64
  (-1)), (.int .i64 0), (.int .i64 0), (.isl [[(.int .i64 1)]]), (.isl []), (.str []), (.int .i64 159)]])]]), (.int .i64 124)]])])]
def wkr4 : V × Heap × List Nat := ((.agg [(.int .i64 0), (.int .i64 0)]), wkh3, [])
def wk4 : Tab := (9, wka4, wkh3, wkr4) :: wk3
theorem wk4_ok : TabOK Tryz.prog cfg 1200 wk4 := Fast.addF (n := 300) wk3_ok (by decide +kernel)
def wka5 : List V := [(.agg [(.isl [[(.str [109, 97, 105, 110]), (.isl []), (.int .i64 0), (.isl [[(.isl [[(.int .i64 22), (.int .i64 (-1)), (.int .i64 0), (.int .i64 0), (.isl [[(.int .i64 1)]]), (.isl []), (.str []), (.int .i64 20)], [(.int .i64 1),
  (.int .i64 1), (.int .i64 2), (.int .i64 0), (.isl []), (.isl []), (.str []), (.int .i64 27)], [(.int .i64 28), (.int .i64 (-1)), (.int .i64 0), (.int .i64 0), (.isl []), (.isl []), (.str []), (.int .i64 40)]])]]), (.int .i64
  0)]])])]
def wkr5 : V × Heap × List Nat := ((.agg [(.int .i64 10), (.int .i64 20)]), wkh3, [])
def wk5 : Tab := (9, wka5, wkh3, wkr5) :: wk4
theorem wk5_ok : TabOK Tryz.prog cfg 1500 wk5 := Fast.addF (n := 300) wk4_ok (by decide +kernel)
def wka6 : List V := [(.agg [(.isl [[(.str [109, 97, 105, 110]), (.isl []), (.int .i64 0), (.isl [[(.isl [[(.int .i64 23), (.int .i64 (-1)), (.int .i64 1), (.int .i64 0), (.isl []), (.isl []), (.str []), (.int .i64 20)], [(.int .i64 28), (.int .i64
  (-1)), (.int .i64 0), (.int .i64 0), (.isl []), (.isl []), (.str []), (.int .i64 27)]])]]), (.int .i64 0)]])])]
def wkr6 : V × Heap × List Nat := ((.agg [(.int .i64 2), (.int .i64 20)]), wkh3, [])
def wk6 : Tab := (9, wka6, wkh3, wkr6) :: wk5
theorem wk6_ok : TabOK Tryz.prog cfg 1800 wk6 := Fast.addF (n := 300) wk5_ok (by decide +kernel)
def wka7 : List V := [(.agg [(.isl [[(.str [109, 97, 105, 110]), (.isl []), (.int .i64 0), (.isl [[(.isl [[(.int .i64 23), (.int .i64 (-1)), (.int .i64 1), (.int .i64 0), (.isl []), (.isl []), (.str []), (.int .i64 20)], [(.int .i64 28), (.int .i64
  (-1)), (.int .i64 0), (.int .i64 0), (.isl []), (.isl []), (.str []), (.int .i64 27)]])]]), (.int .i64 0)]])])]
def wkr7 : V × Heap × List Nat := ((.agg [(.int .i64 0), (.int .i64 0)]), wkh3, [])
def wk7 : Tab := (11, wka7, wkh3, wkr7) :: wk6
theorem wk7_ok : TabOK Tryz.prog cfg 2100 wk7 := Fast.addF (n := 300) wk6_ok (by decide +kernel)
def wka8 : List V := [(.agg [.nils])]
def wkr8 : V × Heap × List Nat := ((.agg [(.int .i64 12), (.int .i64 0)]), wkh3, [])
def wk8 : Tab := (9, wka8, wkh3, wkr8) :: wk7
theorem wk8_ok : TabOK Tryz.prog cfg 2400 wk8 := Fast.addF (n := 300) wk7_ok (by decide +kernel)
theorem wk_run : Fast.runF Tryz.prog cfg wk8 300 8 [] [] = some (.one (.bool true), [], []) := sameR_eq (by decide +kernel)
theorem wk_is : CI Tryz.prog cfg 8 [] [] = some (.one (.bool true), [], []) := CI_run _ (absCallT_le wk8_ok _ _ _ _ _ (Fast.runF_some wk8_ok wk_run))
end Go.Proofs.YtkbdhjfjbkmkcaaGreat.Abs
