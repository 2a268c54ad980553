/- YtdkknhpdjcdmfaaJD47: texts that follow each other, as one. -/
import Derived.Test.YtdkknhpdjcdmfaaJD46
import Derived.Test.YtdkknhpdjcdmfaaJD26
import Derived.Test.YtdkknhpdjcdmfaaJD40
import Derived.WalkKit
import Derived.ProofKit
/- Is a function well shaped? -/
set_option linter.unusedSimpArgs false
set_option linter.unusedVariables false
namespace Go.Proofs.Ytdkknhpdjcdmfaa.Abs
open Go Go.RowKit Go.Proofs

def endsB (op : Int) : Bool := decide (26 ≤ op) && decide (op ≤ 29)
theorem ends (h : Heap) (op : Int) : CX 56 [I op] h = some (Bo (endsB op), h, []) := by
  refine CI_of Try.func56 rfl 0 ?_
  have hk : cfg.keep 56 = 0 := rfl
  unfold endsB
  by_cases h1 : 26 ≤ op
  · by_cases h2 : op ≤ 29 <;> simp (disch := omega) [Try.f56, hk, h1, h2]
  · simp (disch := omega) [Try.f56, hk, h1]

def InsOK (n len i : Nat) (x : Ins) : Prop := endsB x.op = decide (i + 1 = len) ∧ (x.op ≠ 20 → ∀ b, b ∈ x.to → 0 ≤ b ∧ b < n)

def insV (id : Nat) : Option Ins → V
  | none => .junk
  | some _ => .one (.ptr id 1 0 0)
def insO : Option Ins → Option AO
  | none => none
  | some x => some (.row 8 [encIns x])
def natV : Option Nat → V
  | none => .junk
  | some k => I (k : Nat)
@[simp] theorem insV_none (id : Nat) : insV id none = .junk := rfl
@[simp] theorem insV_some (id : Nat) (x : Ins) : insV id (some x) = .one (.ptr id 1 0 0) := rfl
@[simp] theorem insO_none : insO none = none := rfl
@[simp] theorem insO_some (x : Ins) : insO (some x) = some (.row 8 [encIns x]) := rfl
@[simp] theorem natV_none : natV none = .junk := rfl
@[simp] theorem natV_some (k : Nat) : natV (some k) = I (k : Nat) := rfl

def shS (h : Heap) (f : Fn) (k : Nat) (o5 o4 : Option Nat) (o6 : Option Ins) (o7 : Option Nat) (c a : Int) : St :=
  ⟨[(1, .one (.ptr h.length 1 0 0)), (2, .one (.ptr (h.length + 1) 1 0 0)), (3, I (k : Nat)), (5, natV o5), (4, natV o4), (6, insV (h.length + 2) o6), (7, natV o7), (1006, .junk), (1007, .junk), (1005, .junk), (1004, .junk)],
   h ++ [some (.row 5 [encFn f]), some (.row 2 [[.int .i64 c, .int .i64 a]]), insO o6], []⟩
def ShRet (h : Heap) (f : Fn) (r : AX × St) : Prop := ∃ (k i n : Nat) (o6 : Option Ins) (o7 : Option Nat) (c a : Int), c ≠ 0 ∧ r = (.ret, shS h f k (some i) (some n) o6 o7 c a)

theorem sh_c (h : Heap) (f : Fn) (hn : f.blocks.length ≤ 1000) (k i n : Nat) (x : Ins) (hx : x.Ok) :
    ∃ r, lpK 18 Try.f18 85 2 h (shS h f k (some i) (some n) (some x) (some 0) 0 0) = some r ∧
      ((∃ j : Nat, r = (.exit 4, shS h f k (some i) (some n) (some x) (some j) 0 0) ∧ (x.op ≠ 20 → ∀ b, b ∈ x.to → 0 ≤ b ∧ b < f.blocks.length)) ∨ ShRet h f r) := by
  have q := qt18
  simp [Try.f18, quietFn, quietRegs] at q
  have hxt := hx.to
  refine loop_rel (P := Try.prog) (C := cfg) (sc := runScope Try.prog cfg 85 h.length (cfg.live 18) 0) (N := 85) (n0 := h.length) (K := cfg.live 18) (c := loopAt Try.f18 2)
    (fun j : Nat => shS h f k (some i) (some n) (some x) (some j) 0 0) (fun j => j ≤ x.to.length ∧ ∀ (t : Nat) b, x.to[t]? = some b → t < j → 0 ≤ b ∧ b < f.blocks.length) (fun j => x.to.length - j)
    (fun _ r => (∃ j : Nat, r = (.exit 4, shS h f k (some i) (some n) (some x) (some j) 0 0) ∧ (x.op ≠ 20 → ∀ b, b ∈ x.to → 0 ≤ b ∧ b < f.blocks.length)) ∨ ShRet h f r) ?_ 0 ⟨Nat.zero_le _, fun t b _ ht => by omega⟩
  rintro j ⟨j1, j2⟩
  rcases Nat.lt_or_ge j x.to.length with hlt | hge
  · have hltI : ((j : Nat) : Int) < ((x.to.length : Nat) : Int) := by omega
    by_cases hop : x.op = 20
    · refine .inr ⟨(.exit 4, shS h f k (some i) (some n) (some x) (some j) 0 0), ?_, nofun, .inl ⟨j, rfl, fun h => absurd hop h⟩⟩
      have hopB : (x.op != 20) = false := by simp [hop]
      simp (disch := omega) [round_eq, shS, encIns, encFn, Try.f18, lv18, q, hlt, hltI, hopB, -getElem?_pos]
    · have hopB : (x.op != 20) = true := by simp [hop]
      obtain ⟨b, hb⟩ : ∃ b, x.to[j]? = some b := ⟨_, List.getElem?_eq_getElem hlt⟩
      by_cases hb0 : b < 0
      · refine .inr ⟨(.ret, shS h f k (some i) (some n) (some x) (some j) 7 k), ?_, nofun, .inr ⟨k, i, n, some x, some j, 7, k, by simp, rfl⟩⟩
        simp (disch := omega) [round_eq, shS, encIns, encFn, Try.f18, lv18, q, hlt, hltI, hopB, hb, hb0, wrap_i64, -getElem?_pos]
      · by_cases hbn : (f.blocks.length : Int) ≤ b
        · refine .inr ⟨(.ret, shS h f k (some i) (some n) (some x) (some j) 7 k), ?_, nofun, .inr ⟨k, i, n, some x, some j, 7, k, by simp, rfl⟩⟩
          simp (disch := omega) [round_eq, shS, encIns, encFn, Try.f18, lv18, q, hlt, hltI, hopB, hb, hb0, hbn, wrap_i64, -getElem?_pos]
        · refine .inl ⟨j + 1, ?_, ⟨hlt, fun t c hc ht => ?_⟩, by omega, fun r h => h⟩
          · simp (disch := omega) [round_eq, shS, encIns, encFn, Try.f18, lv18, q, hlt, hltI, hopB, hb, hb0, hbn, wrap_i64, -getElem?_pos]
          · rcases Nat.lt_or_ge t j with htj | htj
            · exact j2 t c hc htj
            · obtain rfl : t = j := by omega
              rw [hb] at hc; cases hc
              omega
  · have : j = x.to.length := by omega
    subst this
    refine .inr ⟨(.exit 4, shS h f k (some i) (some n) (some x) (some x.to.length) 0 0), ?_, nofun, .inl ⟨_, rfl, fun _ b hb => ?_⟩⟩
    · simp (disch := omega) [round_eq, shS, encIns, encFn, Try.f18, lv18, q, -getElem?_pos]
    · obtain ⟨t, ht⟩ := List.getElem?_of_mem hb
      exact j2 t b ht (List.getElem?_eq_some_iff.1 ht).1

theorem sh_b (h : Heap) (f : Fn) (hn : f.blocks.length ≤ 1000) (k : Nat) (l : List Ins) (hl : f.blocks[k]? = some l) (hll : l.length ≤ 100000) (hok : ∀ x, x ∈ l → x.Ok) :
    ∃ r, lpK 18 Try.f18 85 1 h (shS h f k (some 0) (some l.length) none none 0 0) = some r ∧
      ((r = (.exit 2, shS h f k (some l.length) (some l.length) none none 0 0) ∧ ∀ (i : Nat) x, l[i]? = some x → InsOK f.blocks.length l.length i x) ∨ ShRet h f r) := by
  have q := qt18
  simp [Try.f18, quietFn, quietRegs] at q
  have hkl := (List.getElem?_eq_some_iff.1 hl).1
  refine loop_rel (P := Try.prog) (C := cfg) (sc := runScope Try.prog cfg 85 h.length (cfg.live 18) 0) (N := 85) (n0 := h.length) (K := cfg.live 18) (c := loopAt Try.f18 1)
    (fun i : Nat => shS h f k (some i) (some l.length) none none 0 0) (fun i => i ≤ l.length ∧ ∀ (t : Nat) x, l[t]? = some x → t < i → InsOK f.blocks.length l.length t x) (fun i => l.length - i)
    (fun _ r => (r = (.exit 2, shS h f k (some l.length) (some l.length) none none 0 0) ∧ ∀ (i : Nat) x, l[i]? = some x → InsOK f.blocks.length l.length i x) ∨ ShRet h f r) ?_ 0 ⟨Nat.zero_le _, fun t b _ ht => by omega⟩
  rintro i ⟨j1, j2⟩
  rcases Nat.lt_or_ge i l.length with hlt | hge
  · have hltI : ((i : Nat) : Int) < ((l.length : Nat) : Int) := by omega
    obtain ⟨x, hx⟩ : ∃ x, l[i]? = some x := ⟨_, List.getElem?_eq_getElem hlt⟩
    have hxo := hok x (List.mem_of_getElem? hx)
    have hdec : (((i : Nat) : Int) + 1 == ((l.length : Nat) : Int)) = decide (i + 1 = l.length) := by
      rw [Bool.eq_iff_iff]; simp; omega
    by_cases hE : endsB x.op = decide (i + 1 = l.length)
    · have hEB : (endsB x.op != decide (i + 1 = l.length)) = false := by rw [hE]; simp
      obtain ⟨r, e, hr⟩ := sh_c h f hn k i l.length x hxo
      rcases hr with ⟨j, rfl, hr⟩ | ⟨k', i', n', o6, o7, c, a, hc, rfl⟩
      · refine .inl ⟨i + 1, ?_, ⟨hlt, fun t y hy ht => ?_⟩, by omega, fun r h => h⟩
        · simp [shS, encIns, encFn, lpK, lv18, Try.f18] at e
          simp (disch := omega) [round_eq, shS, encIns, encFn, Try.f18, lv18, q, hl, hkl, hx, hlt, hltI, ends, hdec, hEB, e, wrap_i64, -getElem?_pos]
        · rcases Nat.lt_or_ge t i with hti | hti
          · exact j2 t y hy hti
          · obtain rfl : t = i := by omega
            rw [hx] at hy; cases hy
            exact ⟨hE, hr⟩
      · refine .inr ⟨(.ret, shS h f k' (some i') (some n') o6 o7 c a), ?_, nofun, .inr ⟨k', i', n', o6, o7, c, a, hc, rfl⟩⟩
        cases o6 <;> cases o7 <;>
        (simp [shS, encIns, encFn, lpK, lv18, Try.f18] at e
         simp (disch := omega) [round_eq, shS, encIns, encFn, Try.f18, lv18, q, hl, hkl, hx, hlt, hltI, ends, hdec, hEB, e, wrap_i64, -getElem?_pos])
    · have hEB : (endsB x.op != decide (i + 1 = l.length)) = true := by simpa using hE
      refine .inr ⟨(.ret, shS h f k (some i) (some l.length) (some x) none 15 k), ?_, nofun, .inr ⟨k, i, l.length, some x, none, 15, k, by simp, rfl⟩⟩
      simp (disch := omega) [round_eq, shS, encIns, encFn, Try.f18, lv18, q, hl, hkl, hx, hlt, hltI, ends, hdec, hEB, wrap_i64, -getElem?_pos]
  · have : i = l.length := by omega
    subst this
    refine .inr ⟨(.exit 2, shS h f k (some l.length) (some l.length) none none 0 0), ?_, nofun, .inl ⟨rfl, fun t x hx => j2 t x hx (List.getElem?_eq_some_iff.1 hx).1⟩⟩
    simp (disch := omega) [round_eq, shS, encIns, encFn, Try.f18, lv18, q, -getElem?_pos]

def ShOK (f : Fn) : Prop := ∀ l, l ∈ f.blocks → l ≠ [] ∧ ∀ (i : Nat) x, l[i]? = some x → InsOK f.blocks.length l.length i x

theorem sh_a (h : Heap) (f : Fn) (hf : f.Ok) (hn : f.blocks.length ≤ 1000) (hc : ∀ l, l ∈ f.blocks → l.length ≤ 100000) :
    ∃ r, lpK 18 Try.f18 85 0 h (shS h f 0 none none none none 0 0) = some r ∧ ((r = (.exit 0, shS h f f.blocks.length none none none none 0 0) ∧ ShOK f) ∨ ShRet h f r) := by
  have q := qt18
  simp [Try.f18, quietFn, quietRegs] at q
  refine loop_rel (P := Try.prog) (C := cfg) (sc := runScope Try.prog cfg 85 h.length (cfg.live 18) 0) (N := 85) (n0 := h.length) (K := cfg.live 18) (c := loopAt Try.f18 0)
    (fun k : Nat => shS h f k none none none none 0 0) (fun k => k ≤ f.blocks.length ∧ ∀ (t : Nat) l, f.blocks[t]? = some l → t < k → l ≠ [] ∧ ∀ (i : Nat) x, l[i]? = some x → InsOK f.blocks.length l.length i x) (fun k => f.blocks.length - k)
    (fun _ r => (r = (.exit 0, shS h f f.blocks.length none none none none 0 0) ∧ ShOK f) ∨ ShRet h f r) ?_ 0 ⟨Nat.zero_le _, fun t b _ ht => by omega⟩
  rintro k ⟨j1, j2⟩
  rcases Nat.lt_or_ge k f.blocks.length with hlt | hge
  · have hltI : ((k : Nat) : Int) < ((f.blocks.length : Nat) : Int) := by omega
    obtain ⟨l, hl⟩ : ∃ l, f.blocks[k]? = some l := ⟨_, List.getElem?_eq_getElem hlt⟩
    have hm := List.mem_of_getElem? hl
    obtain ⟨r, e, hr⟩ := sh_b h f hn k l hl (hc l hm) (hf.each l hm)
    rcases hr with ⟨rfl, hr⟩ | ⟨k', i', n', o6, o7, c, a, hc, rfl⟩
    · simp [shS, encFn, lpK, lv18, Try.f18] at e
      by_cases hne : l = []
      · subst hne
        refine .inr ⟨(.ret, shS h f k (some 0) (some 0) none none 15 k), ?_, nofun, .inr ⟨k, 0, 0, none, none, 15, k, by simp, rfl⟩⟩
        simp at e
        simp (disch := omega) [round_eq, shS, encFn, Try.f18, lv18, q, hl, hlt, hltI, e, wrap_i64, -getElem?_pos]
      · have hlp := List.length_pos_iff.2 hne
        have hl0 : ¬ l.length = 0 := by omega
        have hlI : (((l.length : Nat) : Int) == 0) = false := by simp; omega
        refine .inl ⟨k + 1, ?_, ⟨hlt, fun t y hy ht => ?_⟩, by omega, fun r h => h⟩
        · simp (disch := omega) [round_eq, shS, encFn, Try.f18, lv18, q, hl, hlt, hltI, hne, hl0, hlI, e, wrap_i64, -getElem?_pos]
        · rcases Nat.lt_or_ge t k with hti | hti
          · exact j2 t y hy hti
          · obtain rfl : t = k := by omega
            rw [hl] at hy; cases hy
            exact ⟨hne, hr⟩
    · refine .inr ⟨(.ret, shS h f k' (some i') (some n') o6 o7 c a), ?_, nofun, .inr ⟨k', i', n', o6, o7, c, a, hc, rfl⟩⟩
      cases o6 <;> cases o7 <;>
      (simp [shS, encIns, encFn, lpK, lv18, Try.f18] at e
       simp (disch := omega) [round_eq, shS, encIns, encFn, Try.f18, lv18, q, hl, hlt, hltI, e, wrap_i64, -getElem?_pos])
  · have : k = f.blocks.length := by omega
    subst this
    refine .inr ⟨(.exit 0, shS h f f.blocks.length none none none none 0 0), ?_, nofun, .inl ⟨rfl, fun l hl => ?_⟩⟩
    · simp (disch := omega) [round_eq, shS, encFn, Try.f18, lv18, q, -getElem?_pos]
    · obtain ⟨t, ht⟩ := List.getElem?_of_mem hl
      exact j2 t l ht (List.getElem?_eq_some_iff.1 ht).1

theorem shaped (h : Heap) (f : Fn) (hf : f.Ok) (hn : f.blocks.length ≤ 1000) (hc : ∀ l, l ∈ f.blocks → l.length ≤ 100000) :
    ∃ c a : Int, CX 18 [.agg (encFn f)] h = some (.agg [.int .i64 c, .int .i64 a], h, []) ∧ (c = 0 → 0 < f.blocks.length ∧ ShOK f) := by
  have hk : cfg.keep 18 = 0 := rfl
  have q := qt18
  simp [Try.f18, quietFn, quietRegs] at q
  by_cases h0 : f.blocks.length = 0
  · refine ⟨15, 0, CI_of Try.func18 rfl 0 ?_, fun h => by simp at h⟩
    simp (disch := omega) [Try.f18, lv18, hk, encFn, h0, -getElem?_pos]
  · have hB : (((f.blocks.length : Nat) : Int) == 0) = false := by rw [beq_eq_false_iff_ne]; omega
    obtain ⟨r, e, hr⟩ := sh_a h f hf hn hc
    rcases hr with ⟨rfl, hr⟩ | ⟨k', i', n', o6, o7, c, a, hc, rfl⟩
    · refine ⟨0, 0, CI_of Try.func18 rfl 0 ?_, fun _ => ⟨by omega, hr⟩⟩
      simp [shS, encIns, encFn, lpK, lv18, Try.f18] at e
      simp (disch := omega) [Try.f18, lv18, hk, encFn, h0, hB, e, -getElem?_pos]
    · refine ⟨c, a, CI_of Try.func18 rfl 0 ?_, fun h => absurd h hc⟩
      cases o6 <;> cases o7 <;>
      (simp [shS, encIns, encFn, lpK, lv18, Try.f18] at e
       simp (disch := omega) [Try.f18, lv18, hk, encFn, h0, hB, e, -getElem?_pos])
end Go.Proofs.Ytdkknhpdjcdmfaa.Abs

/- Is a function no more than is waited for? What is known of it then; functions as they are handed in. -/
set_option linter.unusedSimpArgs false
set_option linter.unusedVariables false
namespace Go.Proofs.Ytdkknhpdjcdmfaa.Abs
open Go Go.RowKit Go.Proofs

def ltS (h : Heap) (f : Fn) (i n : Nat) (o5 : Option Nat) (r : Int) : St :=
  ⟨[(1, .one (.ptr h.length 1 0 0)), (4, I (i : Nat)), (3, I (n : Nat)), (5, natV o5), (2, I r), (1005, .junk)], h ++ [some (.row 5 [encFn f])], []⟩
def LtRet (h : Heap) (f : Fn) (r : AX × St) : Prop := ∃ (i n : Nat) (o5 : Option Nat), r = (.ret, ltS h f i n o5 1)
theorem lt_in (h : Heap) (f : Fn) (hn : f.blocks.length ≤ 1000) (i n : Nat) (l : List Ins) (hl : f.blocks[i]? = some l) (hll : l.length ≤ 100000) (hok : ∀ x, x ∈ l → x.Ok) :
    ∃ r, lpK 71 Try.f71 66 1 h (ltS h f i n (some 0) 0) = some r ∧ ((r = (.exit 2, ltS h f i n (some l.length) 0) ∧ ∀ x, x ∈ l → x.to.length ≤ 30) ∨ LtRet h f r) := by
  have hkl := (List.getElem?_eq_some_iff.1 hl).1
  refine loop_rel (P := Try.prog) (C := cfg) (sc := runScope Try.prog cfg 66 h.length (cfg.live 71) 0) (N := 66) (n0 := h.length) (K := cfg.live 71) (c := loopAt Try.f71 1)
    (fun j : Nat => ltS h f i n (some j) 0) (fun j => j ≤ l.length ∧ ∀ (t : Nat) x, l[t]? = some x → t < j → x.to.length ≤ 30) (fun j => l.length - j)
    (fun _ r => (r = (.exit 2, ltS h f i n (some l.length) 0) ∧ ∀ x, x ∈ l → x.to.length ≤ 30) ∨ LtRet h f r) ?_ 0 ⟨Nat.zero_le _, fun t b _ ht => by omega⟩
  rintro j ⟨j1, j2⟩
  rcases Nat.lt_or_ge j l.length with hlt | hge
  · have hltI : ((j : Nat) : Int) < ((l.length : Nat) : Int) := by omega
    obtain ⟨x, hx⟩ : ∃ x, l[j]? = some x := ⟨_, List.getElem?_eq_getElem hlt⟩
    have hxo := hok x (List.mem_of_getElem? hx)
    have hxt := hxo.to
    have hxa := hxo.args
    by_cases ht : 30 < x.to.length
    · have htI : (30 : Int) < ((x.to.length : Nat) : Int) := by omega
      refine .inr ⟨(.ret, ltS h f i n (some j) 1), ?_, nofun, .inr ⟨i, n, some j, rfl⟩⟩
      simp (disch := omega) [round_eq, ltS, encIns, encFn, Try.f71, lv71, hl, hkl, hx, hlt, hltI, ht, htI, wrap_i64, -getElem?_pos]
    · have htI : ¬ (30 : Int) < ((x.to.length : Nat) : Int) := by omega
      by_cases ha : 30 < x.args.length
      · have haI : (30 : Int) < ((x.args.length : Nat) : Int) := by omega
        refine .inr ⟨(.ret, ltS h f i n (some j) 1), ?_, nofun, .inr ⟨i, n, some j, rfl⟩⟩
        simp (disch := omega) [round_eq, ltS, encIns, encFn, Try.f71, lv71, hl, hkl, hx, hlt, hltI, ht, htI, ha, haI, wrap_i64, -getElem?_pos]
      · have haI : ¬ (30 : Int) < ((x.args.length : Nat) : Int) := by omega
        by_cases hm : 100 < x.name.length
        · have hmI : (100 : Int) < ((x.name.length : Nat) : Int) := by omega
          refine .inr ⟨(.ret, ltS h f i n (some j) 1), ?_, nofun, .inr ⟨i, n, some j, rfl⟩⟩
          simp (disch := omega) [round_eq, ltS, encIns, encFn, Try.f71, lv71, hl, hkl, hx, hlt, hltI, ht, htI, ha, haI, hm, hmI, wrap_i64, -getElem?_pos]
        · have hmI : ¬ (100 : Int) < ((x.name.length : Nat) : Int) := by omega
          refine .inl ⟨j + 1, ?_, ⟨hlt, fun t y hy ht' => ?_⟩, by omega, fun r h => h⟩
          · simp (disch := omega) [round_eq, ltS, encIns, encFn, Try.f71, lv71, hl, hkl, hx, hlt, hltI, ht, htI, ha, haI, hm, hmI, wrap_i64, -getElem?_pos]
          · rcases Nat.lt_or_ge t j with htj | htj
            · exact j2 t y hy htj
            · obtain rfl : t = j := by omega
              rw [hx] at hy; cases hy
              omega
  · have : j = l.length := by omega
    subst this
    refine .inr ⟨(.exit 2, ltS h f i n (some l.length) 0), ?_, nofun, .inl ⟨rfl, fun x hx => ?_⟩⟩
    · simp (disch := omega) [round_eq, ltS, encIns, encFn, Try.f71, lv71, hl, hkl, -getElem?_pos]
    · obtain ⟨t, ht⟩ := List.getElem?_of_mem hx
      exact j2 t x ht (List.getElem?_eq_some_iff.1 ht).1

def LtOK (l : List Ins) : Prop := l.length ≤ 150 ∧ ∀ x, x ∈ l → x.to.length ≤ 30
theorem lt_out (h : Heap) (f : Fn) (hf : f.Ok) (hn : f.blocks.length ≤ 1000) :
    ∃ r, lpK 71 Try.f71 66 0 h (ltS h f 0 0 none 0) = some r ∧ ((∃ n, r = (.exit 0, ltS h f f.blocks.length n none 0) ∧ ∀ l, l ∈ f.blocks → LtOK l) ∨ LtRet h f r) := by
  refine loop_rel (P := Try.prog) (C := cfg) (sc := runScope Try.prog cfg 66 h.length (cfg.live 71) 0) (N := 66) (n0 := h.length) (K := cfg.live 71) (c := loopAt Try.f71 0)
    (fun s : Nat × Nat => ltS h f s.1 s.2 none 0) (fun s => s.1 ≤ f.blocks.length ∧ s.2 ≤ 150 ∧ ∀ (t : Nat) l, f.blocks[t]? = some l → t < s.1 → LtOK l) (fun s => f.blocks.length - s.1)
    (fun _ r => (∃ n, r = (.exit 0, ltS h f f.blocks.length n none 0) ∧ ∀ l, l ∈ f.blocks → LtOK l) ∨ LtRet h f r) ?_ (0, 0) ⟨Nat.zero_le _, by simp, fun t b _ ht => by simp only at ht; omega⟩
  rintro ⟨i, n⟩ ⟨j1, j2, j3⟩
  simp only at j1 j2 j3 ⊢
  rcases Nat.lt_or_ge i f.blocks.length with hlt | hge
  · have hltI : ((i : Nat) : Int) < ((f.blocks.length : Nat) : Int) := by omega
    obtain ⟨l, hl⟩ : ∃ l, f.blocks[i]? = some l := ⟨_, List.getElem?_eq_getElem hlt⟩
    have hm := List.mem_of_getElem? hl
    have hlf := hf.code l hm
    by_cases hb : 150 < n + l.length
    · have hbI : (150 : Int) < ((n : Nat) : Int) + ((l.length : Nat) : Int) := by omega
      refine .inr ⟨(.ret, ltS h f i (n + l.length) none 1), ?_, nofun, .inr ⟨i, n + l.length, none, rfl⟩⟩
      simp (disch := omega) [round_eq, ltS, encFn, Try.f71, lv71, hl, hlt, hltI, hb, hbI, wrap_i64, -getElem?_pos]
    · have hbI : ¬ (150 : Int) < ((n : Nat) : Int) + ((l.length : Nat) : Int) := by omega
      obtain ⟨r, e, hr⟩ := lt_in h f hn i (n + l.length) l hl (by omega) (hf.each l hm)
      rcases hr with ⟨rfl, hr⟩ | ⟨i', n', o5, rfl⟩
      · refine .inl ⟨(i + 1, n + l.length), ?_, ⟨hlt, by simp only; omega, fun t y hy ht => ?_⟩, by simp only; omega, fun r h => h⟩
        · simp [ltS, encFn, lpK, lv71, Try.f71] at e
          simp (disch := omega) [round_eq, ltS, encFn, Try.f71, lv71, hl, hlt, hltI, hb, hbI, e, wrap_i64, -getElem?_pos]
        · rcases Nat.lt_or_ge t i with hti | hti
          · exact j3 t y hy hti
          · obtain rfl : t = i := by simp only at ht; omega
            rw [hl] at hy; cases hy
            exact ⟨by omega, hr⟩
      · refine .inr ⟨(.ret, ltS h f i' n' o5 1), ?_, nofun, .inr ⟨i', n', o5, rfl⟩⟩
        cases o5 <;>
        (simp [ltS, encFn, lpK, lv71, Try.f71] at e
         simp (disch := omega) [round_eq, ltS, encFn, Try.f71, lv71, hl, hlt, hltI, hb, hbI, e, wrap_i64, -getElem?_pos])
  · have : i = f.blocks.length := by omega
    subst this
    refine .inr ⟨(.exit 0, ltS h f f.blocks.length n none 0), ?_, nofun, .inl ⟨n, rfl, fun l hl => ?_⟩⟩
    · simp (disch := omega) [round_eq, ltS, encFn, Try.f71, lv71, -getElem?_pos]
    · obtain ⟨t, ht⟩ := List.getElem?_of_mem hl
      exact j3 t l ht (List.getElem?_eq_some_iff.1 ht).1

theorem light8 (h : Heap) (f : Fn) (hf : f.Ok) :
    ∃ r : Int, CX 71 [.agg (encFn f)] h = some (I r, h, []) ∧ (r = 0 → 0 < f.blocks.length ∧ f.blocks.length ≤ 24 ∧ ShOK f ∧ ∀ l, l ∈ f.blocks → LtOK l) := by
  have hk : cfg.keep 71 = 0 := rfl
  have hb := hf.blocks
  by_cases h24 : 24 < f.blocks.length
  · have h24I : (24 : Int) < ((f.blocks.length : Nat) : Int) := by omega
    refine ⟨1, CI_of Try.func71 rfl 0 ?_, fun h => by simp at h⟩
    simp (disch := omega) [Try.f71, lv71, hk, encFn, h24, h24I, -getElem?_pos]
  · have h24I : ¬ (24 : Int) < ((f.blocks.length : Nat) : Int) := by omega
    obtain ⟨r, e, hr⟩ := lt_out h f hf (by omega)
    rcases hr with ⟨n, rfl, hr⟩ | ⟨i', n', o5, rfl⟩
    · obtain ⟨c, a, e2, hs⟩ := shaped [] f hf (by omega) (fun l hl => by have := (hr l hl).1; omega)
      simp [ltS, encFn, lpK, lv71, Try.f71] at e
      simp [encFn] at e2
      by_cases hc : c = 0
      · subst hc
        refine ⟨0, CI_of Try.func71 rfl 0 ?_, fun _ => ⟨(hs rfl).1, by omega, (hs rfl).2, hr⟩⟩
        simp (disch := omega) [Try.f71, lv71, hk, encFn, h24, h24I, e, e2, -getElem?_pos]
      · have hcB : (c != 0) = true := by simp [hc]
        refine ⟨1, CI_of Try.func71 rfl 0 ?_, fun h => by simp at h⟩
        simp (disch := omega) [Try.f71, lv71, hk, encFn, h24, h24I, e, e2, hcB, -getElem?_pos]
    · refine ⟨1, CI_of Try.func71 rfl 0 ?_, fun h => by simp at h⟩
      cases o5 <;>
      (simp [ltS, encFn, lpK, lv71, Try.f71] at e
       simp (disch := omega) [Try.f71, lv71, hk, encFn, h24, h24I, e, -getElem?_pos])

theorem foldU_mem : ∀ (xs out : List Int) (b : Int), b ∈ xs.foldl addU out → b ∈ out ∨ b ∈ xs
  | [], out, b, h => .inl h
  | x :: xs, out, b, h => by
    rw [List.foldl_cons] at h
    rcases foldU_mem xs _ b h with h | h
    · unfold addU at h
      split at h
      · exact .inl h
      · rcases List.mem_append.1 h with h | h
        · exact .inl h
        · rw [List.mem_singleton.1 h]; exact .inr (by simp)
    · exact .inr (by simp [h])
theorem fine_of {f : Fn} (hf : f.Ok) (hn : f.blocks.length ≤ 24) (hs : ShOK f) (hl : ∀ l, l ∈ f.blocks → LtOK l) : f.Fine := by
  refine ⟨hf, fun l h => (hs l h).1, by omega, ⟨by simp; omega, fun m hm => ?_⟩⟩
  obtain ⟨l, h1, rfl⟩ := List.mem_map.1 hm
  obtain ⟨g1, g2⟩ := hs l h1
  have hp := List.length_pos_iff.2 g1
  obtain ⟨x, hx⟩ : ∃ x, l[l.length - 1]? = some x := ⟨_, List.getElem?_eq_getElem (by omega)⟩
  have hto : toB l = x.to := by unfold toB; rw [hx]
  have hxl := (hl l h1).2 x (List.mem_of_getElem? hx)
  obtain ⟨k1, k2⟩ := g2 _ x hx
  have hdd : decide (l.length - 1 + 1 = l.length) = true := decide_eq_true (by omega)
  rw [hdd] at k1
  have hop : x.op ≠ 20 := fun e => by rw [e] at k1; simp [endsB] at k1
  refine ⟨?_, fun b hb => ?_⟩
  · have := foldU_len (toB l) []
    unfold nextB
    rw [hto] at this ⊢
    simp at this
    omega
  · unfold nextB at hb
    rcases foldU_mem _ _ _ hb with h | h
    · simp at h
    · rw [hto] at h
      simpa using k2 hop b h

/-! Functions as they are handed in. -/
theorem list_of' {α β : Type} {f : α → β} : ∀ {es : List β}, (∀ x, x ∈ es → ∃ a, x = f a) → ∃ l : List α, es = l.map f ∧ l.length = es.length
  | [], _ => ⟨[], rfl, rfl⟩
  | e :: es, h => by
    obtain ⟨a, ha⟩ := h e List.mem_cons_self
    obtain ⟨l, hl, hn⟩ := list_of' (es := es) fun x hx => h x (List.mem_cons_of_mem _ hx)
    exact ⟨a :: l, by rw [ha, hl]; rfl, by simp [hn]⟩
theorem reach_fit' {α : Type} {xs : List α} {b : Nat} (hb : 8 ≤ b) (h : xs.length * b ≤ reachBytes) : Fit xs := by
  unfold reachBytes at h
  have : xs.length * 8 ≤ xs.length * b := Nat.mul_le_mul_left _ hb
  show xs.length ≤ _
  omega
theorem typed_ints' {ls : List Leaf} (h : Typed (.slice (.int .i64)) ls) : ∃ xs : List Int, ls = [.isl (intsOf xs)] ∧ Fit xs := by
  simp only [Typed] at h
  obtain ⟨es, rfl, h1, h2⟩ := h
  obtain ⟨xs, rfl, hl⟩ := list_of' (f := fun n : Int => [Leaf.int .i64 n]) (es := es) fun x hx => by
    obtain ⟨n, hn, _⟩ := h2 x hx; exact ⟨n, hn⟩
  exact ⟨xs, rfl, reach_fit' (b := 8) (by omega) (by rw [hl]; exact h1)⟩
theorem typed_int {ls : List Leaf} (h : Typed (.int .i64) ls) : ∃ n : Int, ls = [.int .i64 n] := by
  simp only [Typed] at h
  obtain ⟨n, rfl, _⟩ := h
  exact ⟨n, rfl⟩
theorem typed_str {ls : List Leaf} (h : Typed .str ls) : ∃ s : List UInt8, ls = [.str s] := by
  simp only [Typed] at h
  obtain ⟨n, rfl, _⟩ := h
  exact ⟨n, rfl⟩
def tIns : Ty := .struct [.int .i64, .int .i64, .int .i64, .int .i64, .slice (.int .i64), .slice (.int .i64), .str, .int .i64]
def tFn : Ty := .struct [.str, .slice (.int .i64), .int .i64, .slice (.slice tIns), .int .i64]
theorem typed_ins {ls : List Leaf} (h : Typed tIns ls) : ∃ x : { x : Ins // x.Ok }, ls = encIns x.1 := by
  simp only [Typed, tIns, TypedAll] at h
  obtain ⟨_, _, rfl, g1, _, _, rfl, g2, _, _, rfl, g3, _, _, rfl, g4, _, _, rfl, g5, _, _, rfl, g6, _, _, rfl, g7, _, _, rfl, g8, rfl⟩ := h
  obtain ⟨a, rfl, _⟩ := g1
  obtain ⟨b, rfl, _⟩ := g2
  obtain ⟨c, rfl, _⟩ := g3
  obtain ⟨d, rfl, _⟩ := g4
  obtain ⟨e, rfl, he⟩ := typed_ints' (by simpa only [Typed] using g5)
  obtain ⟨t, rfl, ht⟩ := typed_ints' (by simpa only [Typed] using g6)
  obtain ⟨s, rfl, _⟩ := g7
  obtain ⟨w, rfl, _⟩ := g8
  exact ⟨⟨⟨a, b, c, d, e, t, s, w⟩, ⟨he, ht⟩⟩, rfl⟩
theorem typed_code {ls : List Leaf} (h : Typed (.slice tIns) ls) : ∃ l : { l : List Ins // Fit l ∧ ∀ x, x ∈ l → x.Ok }, ls = [.isl (codeOf l.1)] := by
  unfold Typed at h
  obtain ⟨es, rfl, h1, h2⟩ := h
  obtain ⟨xs, rfl, hl⟩ := list_of' (f := fun x : { x : Ins // x.Ok } => encIns x.1) (es := es) fun x hx => typed_ins (h2 x hx)
  refine ⟨⟨xs.map (·.1), ?_, fun x hx => ?_⟩, by simp [codeOf, List.map_map]⟩
  · have := reach_fit' (xs := xs) (b := 32) (by omega) (by rw [hl]; exact h1)
    simpa [Fit] using this
  · obtain ⟨y, _, rfl⟩ := List.mem_map.1 hx; exact y.2
theorem typed_fn {v : V} (h : TypedV tFn v) : ∃ f : Fn, v = .agg (encFn f) ∧ f.Ok := by
  obtain ⟨ls, rfl, h⟩ := h
  simp only [TypedAll] at h
  obtain ⟨_, _, rfl, g1, _, _, rfl, g2, _, _, rfl, g3, _, _, rfl, g4, _, _, rfl, g5, rfl⟩ := h
  obtain ⟨nm, rfl⟩ := typed_str g1
  obtain ⟨ps, rfl, hps⟩ := typed_ints' g2
  obtain ⟨rt, rfl⟩ := typed_int g3
  unfold Typed at g4
  obtain ⟨es, rfl, h1, h2⟩ := g4
  obtain ⟨w, rfl⟩ := typed_int g5
  obtain ⟨bs, rfl, hl⟩ := list_of' (f := fun l : { l : List Ins // Fit l ∧ ∀ x, x ∈ l → x.Ok } => [Leaf.isl (codeOf l.1)]) (es := es) fun x hx => typed_code (h2 x hx)
  refine ⟨⟨nm, ps, rt, bs.map (·.1), w⟩, by simp [encFn, blksOf, List.map_map, Function.comp_def], ⟨hps, ?_, fun l hl => ?_, fun l hl => ?_⟩⟩
  · have := reach_fit' (xs := bs) (b := 24) (by omega) (by rw [hl]; exact h1)
    simpa [Fit] using this
  · obtain ⟨y, _, rfl⟩ := List.mem_map.1 hl; exact y.2.1
  · obtain ⟨y, _, rfl⟩ := List.mem_map.1 hl; exact y.2.2
end Go.Proofs.Ytdkknhpdjcdmfaa.Abs

/- Is a function no more than is waited for, in the law's own words? -/
set_option linter.unusedSimpArgs false
set_option linter.unusedVariables false
namespace Go.Proofs.Ytdkknhpdjcdmfaa.Abs
open Go Go.RowKit Go.Proofs

theorem light9 (h : Heap) (f : Fn) (hf : f.Ok) :
    ∃ b : Bool, CX 30 [.agg (encFn f)] h = some (Bo b, h, []) ∧ (b = true → f.Fine ∧ 0 < f.blocks.length ∧ f.blocks.length ≤ 10) := by
  have hk : cfg.keep 30 = 0 := rfl
  have hb := hf.blocks
  obtain ⟨r, e, hr⟩ := light8 [] f hf
  simp [encFn] at e
  by_cases h0 : r = 0
  · subst h0
    obtain ⟨g1, g2, g3, g4⟩ := hr rfl
    refine ⟨decide (f.blocks.length ≤ 10), CI_of Try.func30 rfl 0 ?_, fun h => ⟨fine_of hf g2 g3 g4, g1, of_decide_eq_true h⟩⟩
    have hd : decide (((f.blocks.length : Nat) : Int) ≤ 10) = decide (f.blocks.length ≤ 10) := by rw [decide_eq_decide]; omega
    simp (disch := omega) [Try.f30, hk, encFn, e, hd, -getElem?_pos]
  · have hB : (r == 0) = false := by simp [h0]
    refine ⟨false, CI_of Try.func30 rfl 0 ?_, nofun⟩
    simp (disch := omega) [Try.f30, hk, encFn, e, hB, -getElem?_pos]
end Go.Proofs.Ytdkknhpdjcdmfaa.Abs

/- Who stands ahead of whom: an order; on every way. -/
set_option linter.unusedSimpArgs false
set_option linter.unusedVariables false
set_option linter.unusedSectionVars false
namespace Go.Proofs.Ytdkknhpdjcdmfaa.Abs
open Go Go.RowKit Go.Proofs

def upF (up : List Int) (k : Nat) : Int := if k = 0 then -1 else up.getD k (-1)

section
variable {ss : List (List Int)} (hs : Edges ss) (hn : 0 < ss.length) {pl : Nat → Nat} {up : List Int} (D : Doms ss.length (fun v => (v : Int) ∈ orderF ss) pl (predsF ss) up)
include hs hn D
theorem ahP_trans {x y z : Nat} (h : AhP ss x y) (g : AhP ss y z) : AhP ss x z := by
  obtain ⟨a1, a2, a3, a4, a5⟩ := (doms_exact hs hn D).2 h
  obtain ⟨b1, b2, b3, b4, b5⟩ := (doms_exact hs hn D).2 g
  exact (doms_exact hs hn D).1 ⟨a1, b2, a3, b4, a5.trans b5⟩
theorem ahP_anti {x y : Nat} (h : AhP ss x y) (g : AhP ss y x) : x = y := by
  obtain ⟨a1, a2, a3, a4, a5⟩ := (doms_exact hs hn D).2 h
  obtain ⟨_, _, _, _, b5⟩ := (doms_exact hs hn D).2 g
  have h1 := (D.T.anc a5 a2 a4).2.2
  have h2 := (D.T.anc b5 a1 a3).2.2
  exact D.T.anc_eq a5 a2 a4 h2
theorem ahP_two {x y z : Nat} (h : AhP ss x z) (g : AhP ss y z) : AhP ss x y ∨ AhP ss y x := by
  obtain ⟨a1, a2, a3, a4, a5⟩ := (doms_exact hs hn D).2 h
  obtain ⟨b1, b2, b3, b4, b5⟩ := (doms_exact hs hn D).2 g
  rcases Nat.le_total (pl x) (pl y) with hl | hl
  · exact .inl ((doms_exact hs hn D).1 ⟨a1, b1, a3, b3, D.T.two a5 b5 a2 a4 hl⟩)
  · exact .inr ((doms_exact hs hn D).1 ⟨b1, a1, b3, a3, D.T.two b5 a5 a2 a4 hl⟩)
theorem ahP_zero {x : Nat} : AhP ss 0 x ↔ AhP ss x x := by
  constructor
  · rintro ⟨_, h2, _⟩
    exact ⟨h2, h2, .inl rfl⟩
  · rintro ⟨h1, _, _⟩
    refine ⟨.start (by simp) (by omega), h1, ?_⟩
    by_cases e : 0 = x
    · exact .inl e
    · right
      intro h
      have key : ∀ v, Rch ss [0] ((0 : Nat) : Int) v → False := by
        intro v h
        induction h with
        | start h hb => exact hb (by simpa using h)
        | step _ _ _ ih => exact ih
      exact key x h
theorem ahP_up {x : Nat} (hx : Rch ss [0] (-1) x) (h0 : x ≠ 0) : AhP ss (nx up x) x := by
  have r := (rch_order hs hn).1 hx
  have l := D.low x r
  have d := (D.done x l).2 r
  obtain ⟨g1, g2, g3⟩ := D.T.link x l d h0
  exact (doms_exact hs hn D).1 ⟨g1, l, g2, d, .step h0 d (.refl _)⟩
end

structure Wayto (ss : List (List Int)) (way : List Int) (k : Nat) : Prop where
  here : (k : Int) ∈ way
  met : Rch ss [0] (-1) k
  but : ∀ a : Nat, (a : Int) ∉ way → Rch ss [0] (a : Int) k
theorem Wayto.zero (ss : List (List Int)) : Wayto ss [0] 0 := by
  refine ⟨by simp, .start (by simp) (by omega), fun a ha => .start (by simp) fun e => ha (by simp; omega)⟩
theorem Wayto.step {ss : List (List Int)} {way : List Int} {k b : Nat} (h : Wayto ss way k) (hb : (b : Int) ∈ ss.getD k []) : Wayto ss (way ++ [(b : Int)]) b := by
  refine ⟨by simp, .step h.met hb (by omega), fun a ha => ?_⟩
  have h1 : (a : Int) ∉ way := fun h' => ha (by simp [h'])
  have h2 : (b : Int) ≠ (a : Int) := fun e => ha (by simp [e])
  exact .step (h.but a h1) hb h2
theorem Wayto.ahead {ss : List (List Int)} {way : List Int} {k a : Nat} (h : Wayto ss way k) (ha : AhP ss a k) : (a : Int) ∈ way := by
  apply Classical.byContradiction
  intro hn
  rcases ha.2.2 with e | e
  · subst e; exact hn h.here
  · exact e (h.but a hn)
end Go.Proofs.Ytdkknhpdjcdmfaa.Abs

/- Who stands ahead of whom is an order: the law answers yes (where its example does). -/
set_option linter.unusedSimpArgs false
set_option linter.unusedVariables false
namespace Go.Proofs.Ytdkknhpdjcdmfaa.Abs
open Go Go.RowKit Go.Proofs

theorem rem_n (a : Int) (n : Nat) (h0 : 0 ≤ a) (hn : 0 < n) : ∃ x : Nat, Int.tmod a (n : Int) = (x : Int) ∧ x < n := by
  have h1 : Int.tmod a (n : Int) = a % (n : Int) := Int.tmod_eq_emod_of_nonneg h0
  have h2 := Int.emod_nonneg a (show (n : Int) ≠ 0 by omega)
  have h3 := Int.emod_lt_of_pos a (show (0 : Int) < n by omega)
  exact ⟨(a % (n : Int)).toNat, by rw [h1]; omega, by omega⟩

theorem domOrders (hw : CX 31 [] [] = some (Bo true, [], [])) (h : Heap) (f : Fn) (hf : f.Ok) (a b c : Int) (ha : 0 ≤ a ∧ a < 256) (hb : 0 ≤ b ∧ b < 256) (hc : 0 ≤ c ∧ c < 256) :
    CX 9 [.agg (encFn f), .one (.int .u8 a), .one (.int .u8 b), .one (.int .u8 c)] h = some (Bo true, h, []) := by
  have hk : cfg.keep 9 = 0 := rfl
  have q := qt9
  simp [Try.f9, quietFn, quietRegs] at q
  obtain ⟨l, e1, hl⟩ := light9 [] f hf
  refine CI_of Try.func9 rfl 0 ?_
  simp [encFn] at e1
  cases l with
  | false => simp (disch := omega) [Try.f9, hk, q, encFn, e1, hw, -getElem?_pos]
  | true =>
    obtain ⟨g1, g2, g3⟩ := hl rfl
    have hsl : (f.blocks.map nextB).length = f.blocks.length := by simp
    obtain ⟨up, dp, kids, e2, hah, D, _⟩ := tree_of (h ++ [some (.row 5 [encFn f])]) f g1 g2 (by omega)
    rw [← hsl] at D
    have tr := fun {x y z : Nat} => ahP_trans g1.edges (by omega) D (x := x) (y := y) (z := z)
    have an := fun {x y : Nat} => ahP_anti g1.edges (by omega) D (x := x) (y := y)
    have tw := fun {x y z : Nat} => ahP_two g1.edges (by omega) D (x := x) (y := y) (z := z)
    have ze := fun {x : Nat} => ahP_zero g1.edges (by omega) D (x := x)
    obtain ⟨x, hx, hxn⟩ := rem_n a f.blocks.length ha.1 g2
    obtain ⟨y, hy, hyn⟩ := rem_n b f.blocks.length hb.1 g2
    obtain ⟨z, hz, hzn⟩ := rem_n c f.blocks.length hc.1 g2
    simp [encFn, treeV] at e2 hah
    have hn0 : ¬ f.blocks.length = 0 := by omega
    have hnI : ¬ ((f.blocks.length : Nat) : Int) = 0 := by omega
    have hw1 : IntKind.i64.wrap a = a := wrap_i64 (by omega) (by omega)
    have hw2 : IntKind.i64.wrap b = b := wrap_i64 (by omega) (by omega)
    have hw3 : IntKind.i64.wrap c = c := wrap_i64 (by omega) (by omega)
    have p1 : ¬ (ahB (f.blocks.map nextB) (x : Int) (y : Int) = true ∧ ahB (f.blocks.map nextB) (y : Int) (z : Int) = true ∧ ahB (f.blocks.map nextB) (x : Int) (z : Int) = false) := fun ⟨h1, h2, h3⟩ => by
      have := ahB_nat.2 (tr (ahB_nat.1 h1) (ahB_nat.1 h2))
      rw [h3] at this; cases this
    have p2 : x ≠ y → ¬ (ahB (f.blocks.map nextB) (x : Int) (y : Int) = true ∧ ahB (f.blocks.map nextB) (y : Int) (x : Int) = true) := fun hne ⟨h1, h2⟩ => hne (an (ahB_nat.1 h1) (ahB_nat.1 h2))
    have p3 : ¬ (ahB (f.blocks.map nextB) (x : Int) (z : Int) = true ∧ ahB (f.blocks.map nextB) (y : Int) (z : Int) = true ∧ ahB (f.blocks.map nextB) (x : Int) (y : Int) = false ∧ ahB (f.blocks.map nextB) (y : Int) (x : Int) = false) := fun ⟨h1, h2, h3, h4⟩ => by
      rcases tw (ahB_nat.1 h1) (ahB_nat.1 h2) with h | h
      · have := ahB_nat.2 h; rw [h3] at this; cases this
      · have := ahB_nat.2 h; rw [h4] at this; cases this
    have p4 : ahB (f.blocks.map nextB) 0 (x : Int) = ahB (f.blocks.map nextB) (x : Int) (x : Int) := by
      rw [Bool.eq_iff_iff, ahB_nat, show (0 : Int) = ((0 : Nat) : Int) from rfl, ahB_nat]; exact ze
    have a1 := fun h => hah h (x : Int) (y : Int)
    have a2 := fun h => hah h (y : Int) (z : Int)
    have a3 := fun h => hah h (x : Int) (z : Int)
    have a4 := fun h => hah h (y : Int) (x : Int)
    have a5 := fun h => hah h (x : Int) (x : Int)
    have a6 := fun h => hah h 0 (x : Int)
    clear hah D tr an tw ze
    by_cases hne : x = y
    · subst hne
      simp only [List.map_map] at *
      cases b3 : ahB (List.map nextB f.blocks) (x : Int) (z : Int) <;> cases b5 : ahB (List.map nextB f.blocks) (x : Int) (x : Int) <;> rw [b5] at p4 <;> simp only [b3, b5, p4] at a1 a2 a3 a4 a5 a6 p1 p3 <;>
      first
        | (exfalso; simp at p3; done)
        | simp (disch := omega) [Try.f9, hk, q, encFn, e1, e2, a1, a2, a3, a4, a5, a6, hx, hy, hz, hn0, hnI, hw1, hw2, hw3, hw, -getElem?_pos]
    · have hneB : ((x : Int) != (y : Int)) = true := by simp; omega
      have p2' := p2 hne
      cases b1 : ahB (f.blocks.map nextB) (x : Int) (y : Int) <;> cases b2 : ahB (f.blocks.map nextB) (y : Int) (z : Int) <;> cases b3 : ahB (f.blocks.map nextB) (x : Int) (z : Int) <;> cases b4 : ahB (f.blocks.map nextB) (y : Int) (x : Int) <;> cases b5 : ahB (f.blocks.map nextB) (x : Int) (x : Int) <;>
      rw [b5] at p4 <;> simp only [b1, b2, b3, b4, b5, p4] at a1 a2 a3 a4 a5 a6 p1 p2' p3 <;>
      first
        | (exfalso; simp at p1; done)
        | (exfalso; simp at p2'; done)
        | (exfalso; simp at p3; done)
        | simp (disch := omega) [Try.f9, hk, q, encFn, e1, e2, a1, a2, a3, a4, a5, a6, hx, hy, hz, hn0, hnI, hneB, hw1, hw2, hw3, hw, -getElem?_pos]
end Go.Proofs.Ytdkknhpdjcdmfaa.Abs

/- The tables are such as they are taken to be: the iterators, and the functions that are told by hand. -/
set_option linter.unusedSimpArgs false
set_option linter.unusedVariables false
namespace Go.Proofs.Ytdkknhpdjcdmfaa.Abs
open Go Go.RowKit Go.Proofs

theorem bwd_ok : ∀ b, b ∈ bwdTab → BwdOK Try.prog b := by
  intro b hb
  obtain rfl := List.mem_singleton.1 hb
  exact ⟨⟨Try.f103, Try.func103, rfl, rfl, rfl⟩, by kernel_rfl, by kernel_rfl, by kernel_rfl, by kernel_rfl⟩

theorem eql_isl_nils {P : Program} {t e : TypeId} (ht : P.underlying t = some (.slice e)) (x : List Leaf) (xs : List (List Leaf)) : binV P .eql t (.one (.isl (x :: xs))) (.one .nils) = some (.one (.bool false)) := by
  simp [binV, eqV, eqLeaf, ht]
theorem bs_none (h : Heap) : buildSliceV Try.prog none h 30 0 [] = some (.one (.sl h.length 1 0 0 0), h ++ [some (.row 1 [])], []) := build_none E30
theorem clone_ci (es : List (List Leaf)) (hs : sized 1 es = true) (ht : treeR es = true) (hb : es.length * 8 ≤ 140737488355328) (hn : es ≠ []) (h : Heap) : CI Try.prog bwdC 81 [.one (.isl es)] h = some (.one (.isl es), h, []) := by
  obtain ⟨x, xs, rfl⟩ : ∃ x xs, es = x :: xs := by cases es with | nil => exact absurd rfl hn | cons x xs => exact ⟨x, xs, rfl⟩
  refine CI_of Try.func81 rfl 0 ?_
  have hk : bwdC.keep 81 = 0 := rfl
  have hl : bwdC.live 81 = [] := rfl
  simp at hs ht hb
  have e0 : binV Try.prog .eql 30 (.one (.isl (x :: xs))) (.one .nils) = some (.one (.bool false)) := eql_isl_nils (e := 3) (by kernel_rfl) x xs
  simp (disch := omega) [Try.f81, hk, hl, hs, ht, e0, bs_none, room_of, -getElem?_pos]

theorem told_ok : ToldOK Try.prog cfg := by
  intro f args v h B M H w vs hI hA
  have hf : f = 81 ∧ cloneT 1 8 args = some v := by
    have h' : (match Nat.beq f 81 with | true => cloneT 1 8 args | false => none) = some v := h
    split at h'
    · rename_i hb; exact ⟨Nat.eq_of_beq_eq_true hb, h'⟩
    · cases h'
  obtain ⟨rfl, h2⟩ := hf
  obtain ⟨es, rfl, rfl, g1, g2, g3, g4⟩ := cloneT_some h2
  refine clone_told (S := 30) (B := 4) (E := 3) (by kernel_rfl) (by kernel_rfl) Try.func81 rfl rfl rfl (z := 1) (hp := [some (.row 1 [])]) ?_ (fun hn h => clone_ci es g1 g2 g3 hn h) hI hA
  simp [clOps3, bs_none]

theorem cfg_ok : CfgOK Try.prog cfg := ⟨fun f => it_all (tab := liveTab) (bs := bwdTab) (by decide +kernel) bwd_ok f, told_ok⟩
end Go.Proofs.Ytdkknhpdjcdmfaa.Abs
