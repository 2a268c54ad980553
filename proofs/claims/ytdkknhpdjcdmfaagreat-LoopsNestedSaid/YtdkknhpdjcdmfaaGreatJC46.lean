/- YtdkknhpdjcdmfaaGreatJC46: texts that follow each other, as one. -/
import Derived.Test.YtdkknhpdjcdmfaaGreatJC45
import Derived.Test.YtdkknhpdjcdmfaaGreatJC24
/- Is a function well shaped? -/
set_option linter.unusedSimpArgs false
set_option linter.unusedVariables false
namespace Go.Proofs.YtdkknhpdjcdmfaaGreat.Abs
open Go Go.RowKit Go.Proofs

def endsB (op : Int) : Bool := decide (26 ≤ op) && decide (op ≤ 29)
theorem ends (h : Heap) (op : Int) : CX 154 [I op] h = some (Bo (endsB op), h, []) := by
  refine CI_of Tryz.func154 rfl 0 ?_
  have hk : cfg.keep 154 = 0 := rfl
  unfold endsB
  by_cases h1 : 26 ≤ op
  · by_cases h2 : op ≤ 29 <;> simp (disch := omega) [Tryz.f154, hk, h1, h2]
  · simp (disch := omega) [Tryz.f154, hk, h1]

/-- An instruction that ends a block just where it is the last one, and goes to blocks that there are. -/
def InsOK (n len i : Nat) (x : Ins) : Prop := endsB x.op = decide (i + 1 = len) ∧ (x.op ≠ 20 → ∀ b, b ∈ x.to → 0 ≤ b ∧ b < n)

def insV (id : Nat) : Option Ins → V
  | none => .junk
  | some _ => .one (.ptr id 1 0 0)
def insO : Option Ins → Option AO
  | none => none
  | some x => some (.row 8 [encIns x])
def natV : Option Nat → V
  | none => .junk
  | some k => I (k : Nat)
@[simp] theorem insV_none (id : Nat) : insV id none = .junk := rfl
@[simp] theorem insV_some (id : Nat) (x : Ins) : insV id (some x) = .one (.ptr id 1 0 0) := rfl
@[simp] theorem insO_none : insO none = none := rfl
@[simp] theorem insO_some (x : Ins) : insO (some x) = some (.row 8 [encIns x]) := rfl
@[simp] theorem natV_none : natV none = .junk := rfl
@[simp] theorem natV_some (k : Nat) : natV (some k) = I (k : Nat) := rfl

def shS (h : Heap) (f : Fn) (k : Nat) (o5 o4 : Option Nat) (o6 : Option Ins) (o7 : Option Nat) (c a : Int) : St :=
  ⟨[(1, .one (.ptr h.length 1 0 0)), (2, .one (.ptr (h.length + 1) 1 0 0)), (3, I (k : Nat)), (5, natV o5), (4, natV o4), (6, insV (h.length + 2) o6), (7, natV o7), (1006, .junk), (1007, .junk), (1005, .junk), (1004, .junk)],
   h ++ [some (.row 5 [encFn f]), some (.row 2 [[.int .i64 c, .int .i64 a]]), insO o6], []⟩
def ShRet (h : Heap) (f : Fn) (r : AX × St) : Prop := ∃ (k i n : Nat) (o6 : Option Ins) (o7 : Option Nat) (c a : Int), c ≠ 0 ∧ r = (.ret, shS h f k (some i) (some n) o6 o7 c a)

theorem sh_c (h : Heap) (f : Fn) (hn : f.blocks.length ≤ 1000) (k i n : Nat) (x : Ins) (hx : x.Ok) :
    ∃ r, lpK 104 Tryz.f104 85 2 h (shS h f k (some i) (some n) (some x) (some 0) 0 0) = some r ∧
      ((∃ j : Nat, r = (.exit 4, shS h f k (some i) (some n) (some x) (some j) 0 0) ∧ (x.op ≠ 20 → ∀ b, b ∈ x.to → 0 ≤ b ∧ b < f.blocks.length)) ∨ ShRet h f r) := by
  have q := qt104
  simp [Tryz.f104, quietFn, quietRegs] at q
  have hxt := hx.to
  refine loop_rel (P := Tryz.prog) (C := cfg) (sc := runScope Tryz.prog cfg 85 h.length (cfg.live 104) 0) (N := 85) (n0 := h.length) (K := cfg.live 104) (c := loopAt Tryz.f104 2)
    (fun j : Nat => shS h f k (some i) (some n) (some x) (some j) 0 0) (fun j => j ≤ x.to.length ∧ ∀ (t : Nat) b, x.to[t]? = some b → t < j → 0 ≤ b ∧ b < f.blocks.length) (fun j => x.to.length - j)
    (fun _ r => (∃ j : Nat, r = (.exit 4, shS h f k (some i) (some n) (some x) (some j) 0 0) ∧ (x.op ≠ 20 → ∀ b, b ∈ x.to → 0 ≤ b ∧ b < f.blocks.length)) ∨ ShRet h f r) ?_ 0 ⟨Nat.zero_le _, fun t b _ ht => by omega⟩
  rintro j ⟨j1, j2⟩
  rcases Nat.lt_or_ge j x.to.length with hlt | hge
  · have hltI : ((j : Nat) : Int) < ((x.to.length : Nat) : Int) := by omega
    by_cases hop : x.op = 20
    · refine .inr ⟨(.exit 4, shS h f k (some i) (some n) (some x) (some j) 0 0), ?_, nofun, .inl ⟨j, rfl, fun h => absurd hop h⟩⟩
      have hopB : (x.op != 20) = false := by simp [hop]
      simp (disch := omega) [round_eq, shS, encIns, encFn, Tryz.f104, lv104, q, hlt, hltI, hopB, -getElem?_pos]
    · have hopB : (x.op != 20) = true := by simp [hop]
      obtain ⟨b, hb⟩ : ∃ b, x.to[j]? = some b := ⟨_, List.getElem?_eq_getElem hlt⟩
      by_cases hb0 : b < 0
      · refine .inr ⟨(.ret, shS h f k (some i) (some n) (some x) (some j) 7 k), ?_, nofun, .inr ⟨k, i, n, some x, some j, 7, k, by simp, rfl⟩⟩
        simp (disch := omega) [round_eq, shS, encIns, encFn, Tryz.f104, lv104, q, hlt, hltI, hopB, hb, hb0, wrap_i64, -getElem?_pos]
      · by_cases hbn : (f.blocks.length : Int) ≤ b
        · refine .inr ⟨(.ret, shS h f k (some i) (some n) (some x) (some j) 7 k), ?_, nofun, .inr ⟨k, i, n, some x, some j, 7, k, by simp, rfl⟩⟩
          simp (disch := omega) [round_eq, shS, encIns, encFn, Tryz.f104, lv104, q, hlt, hltI, hopB, hb, hb0, hbn, wrap_i64, -getElem?_pos]
        · refine .inl ⟨j + 1, ?_, ⟨hlt, fun t c hc ht => ?_⟩, by omega, fun r h => h⟩
          · simp (disch := omega) [round_eq, shS, encIns, encFn, Tryz.f104, lv104, q, hlt, hltI, hopB, hb, hb0, hbn, wrap_i64, -getElem?_pos]
          · rcases Nat.lt_or_ge t j with htj | htj
            · exact j2 t c hc htj
            · obtain rfl : t = j := by omega
              rw [hb] at hc; cases hc
              omega
  · have : j = x.to.length := by omega
    subst this
    refine .inr ⟨(.exit 4, shS h f k (some i) (some n) (some x) (some x.to.length) 0 0), ?_, nofun, .inl ⟨_, rfl, fun _ b hb => ?_⟩⟩
    · simp (disch := omega) [round_eq, shS, encIns, encFn, Tryz.f104, lv104, q, -getElem?_pos]
    · obtain ⟨t, ht⟩ := List.getElem?_of_mem hb
      exact j2 t b ht (List.getElem?_eq_some_iff.1 ht).1

theorem sh_b (h : Heap) (f : Fn) (hn : f.blocks.length ≤ 1000) (k : Nat) (l : List Ins) (hl : f.blocks[k]? = some l) (hll : l.length ≤ 100000) (hok : ∀ x, x ∈ l → x.Ok) :
    ∃ r, lpK 104 Tryz.f104 85 1 h (shS h f k (some 0) (some l.length) none none 0 0) = some r ∧
      ((r = (.exit 2, shS h f k (some l.length) (some l.length) none none 0 0) ∧ ∀ (i : Nat) x, l[i]? = some x → InsOK f.blocks.length l.length i x) ∨ ShRet h f r) := by
  have q := qt104
  simp [Tryz.f104, quietFn, quietRegs] at q
  have hkl := (List.getElem?_eq_some_iff.1 hl).1
  refine loop_rel (P := Tryz.prog) (C := cfg) (sc := runScope Tryz.prog cfg 85 h.length (cfg.live 104) 0) (N := 85) (n0 := h.length) (K := cfg.live 104) (c := loopAt Tryz.f104 1)
    (fun i : Nat => shS h f k (some i) (some l.length) none none 0 0) (fun i => i ≤ l.length ∧ ∀ (t : Nat) x, l[t]? = some x → t < i → InsOK f.blocks.length l.length t x) (fun i => l.length - i)
    (fun _ r => (r = (.exit 2, shS h f k (some l.length) (some l.length) none none 0 0) ∧ ∀ (i : Nat) x, l[i]? = some x → InsOK f.blocks.length l.length i x) ∨ ShRet h f r) ?_ 0 ⟨Nat.zero_le _, fun t b _ ht => by omega⟩
  rintro i ⟨j1, j2⟩
  rcases Nat.lt_or_ge i l.length with hlt | hge
  · have hltI : ((i : Nat) : Int) < ((l.length : Nat) : Int) := by omega
    obtain ⟨x, hx⟩ : ∃ x, l[i]? = some x := ⟨_, List.getElem?_eq_getElem hlt⟩
    have hxo := hok x (List.mem_of_getElem? hx)
    have hdec : (((i : Nat) : Int) + 1 == ((l.length : Nat) : Int)) = decide (i + 1 = l.length) := by
      rw [Bool.eq_iff_iff]; simp; omega
    by_cases hE : endsB x.op = decide (i + 1 = l.length)
    · have hEB : (endsB x.op != decide (i + 1 = l.length)) = false := by rw [hE]; simp
      obtain ⟨r, e, hr⟩ := sh_c h f hn k i l.length x hxo
      rcases hr with ⟨j, rfl, hr⟩ | ⟨k', i', n', o6, o7, c, a, hc, rfl⟩
      · refine .inl ⟨i + 1, ?_, ⟨hlt, fun t y hy ht => ?_⟩, by omega, fun r h => h⟩
        · simp [shS, encIns, encFn, lpK, lv104, Tryz.f104] at e
          simp (disch := omega) [round_eq, shS, encIns, encFn, Tryz.f104, lv104, q, hl, hkl, hx, hlt, hltI, ends, hdec, hEB, e, wrap_i64, -getElem?_pos]
        · rcases Nat.lt_or_ge t i with hti | hti
          · exact j2 t y hy hti
          · obtain rfl : t = i := by omega
            rw [hx] at hy; cases hy
            exact ⟨hE, hr⟩
      · refine .inr ⟨(.ret, shS h f k' (some i') (some n') o6 o7 c a), ?_, nofun, .inr ⟨k', i', n', o6, o7, c, a, hc, rfl⟩⟩
        cases o6 <;> cases o7 <;>
        (simp [shS, encIns, encFn, lpK, lv104, Tryz.f104] at e
         simp (disch := omega) [round_eq, shS, encIns, encFn, Tryz.f104, lv104, q, hl, hkl, hx, hlt, hltI, ends, hdec, hEB, e, wrap_i64, -getElem?_pos])
    · have hEB : (endsB x.op != decide (i + 1 = l.length)) = true := by simpa using hE
      refine .inr ⟨(.ret, shS h f k (some i) (some l.length) (some x) none 15 k), ?_, nofun, .inr ⟨k, i, l.length, some x, none, 15, k, by simp, rfl⟩⟩
      simp (disch := omega) [round_eq, shS, encIns, encFn, Tryz.f104, lv104, q, hl, hkl, hx, hlt, hltI, ends, hdec, hEB, wrap_i64, -getElem?_pos]
  · have : i = l.length := by omega
    subst this
    refine .inr ⟨(.exit 2, shS h f k (some l.length) (some l.length) none none 0 0), ?_, nofun, .inl ⟨rfl, fun t x hx => j2 t x hx (List.getElem?_eq_some_iff.1 hx).1⟩⟩
    simp (disch := omega) [round_eq, shS, encIns, encFn, Tryz.f104, lv104, q, -getElem?_pos]

/-- A function that is well shaped. -/
def ShOK (f : Fn) : Prop := ∀ l, l ∈ f.blocks → l ≠ [] ∧ ∀ (i : Nat) x, l[i]? = some x → InsOK f.blocks.length l.length i x

theorem sh_a (h : Heap) (f : Fn) (hf : f.Ok) (hn : f.blocks.length ≤ 1000) (hc : ∀ l, l ∈ f.blocks → l.length ≤ 100000) :
    ∃ r, lpK 104 Tryz.f104 85 0 h (shS h f 0 none none none none 0 0) = some r ∧ ((r = (.exit 0, shS h f f.blocks.length none none none none 0 0) ∧ ShOK f) ∨ ShRet h f r) := by
  have q := qt104
  simp [Tryz.f104, quietFn, quietRegs] at q
  refine loop_rel (P := Tryz.prog) (C := cfg) (sc := runScope Tryz.prog cfg 85 h.length (cfg.live 104) 0) (N := 85) (n0 := h.length) (K := cfg.live 104) (c := loopAt Tryz.f104 0)
    (fun k : Nat => shS h f k none none none none 0 0) (fun k => k ≤ f.blocks.length ∧ ∀ (t : Nat) l, f.blocks[t]? = some l → t < k → l ≠ [] ∧ ∀ (i : Nat) x, l[i]? = some x → InsOK f.blocks.length l.length i x) (fun k => f.blocks.length - k)
    (fun _ r => (r = (.exit 0, shS h f f.blocks.length none none none none 0 0) ∧ ShOK f) ∨ ShRet h f r) ?_ 0 ⟨Nat.zero_le _, fun t b _ ht => by omega⟩
  rintro k ⟨j1, j2⟩
  rcases Nat.lt_or_ge k f.blocks.length with hlt | hge
  · have hltI : ((k : Nat) : Int) < ((f.blocks.length : Nat) : Int) := by omega
    obtain ⟨l, hl⟩ : ∃ l, f.blocks[k]? = some l := ⟨_, List.getElem?_eq_getElem hlt⟩
    have hm := List.mem_of_getElem? hl
    obtain ⟨r, e, hr⟩ := sh_b h f hn k l hl (hc l hm) (hf.each l hm)
    rcases hr with ⟨rfl, hr⟩ | ⟨k', i', n', o6, o7, c, a, hc, rfl⟩
    · simp [shS, encFn, lpK, lv104, Tryz.f104] at e
      by_cases hne : l = []
      · subst hne
        refine .inr ⟨(.ret, shS h f k (some 0) (some 0) none none 15 k), ?_, nofun, .inr ⟨k, 0, 0, none, none, 15, k, by simp, rfl⟩⟩
        simp at e
        simp (disch := omega) [round_eq, shS, encFn, Tryz.f104, lv104, q, hl, hlt, hltI, e, wrap_i64, -getElem?_pos]
      · have hlp := List.length_pos_iff.2 hne
        have hl0 : ¬ l.length = 0 := by omega
        have hlI : (((l.length : Nat) : Int) == 0) = false := by simp; omega
        refine .inl ⟨k + 1, ?_, ⟨hlt, fun t y hy ht => ?_⟩, by omega, fun r h => h⟩
        · simp (disch := omega) [round_eq, shS, encFn, Tryz.f104, lv104, q, hl, hlt, hltI, hne, hl0, hlI, e, wrap_i64, -getElem?_pos]
        · rcases Nat.lt_or_ge t k with hti | hti
          · exact j2 t y hy hti
          · obtain rfl : t = k := by omega
            rw [hl] at hy; cases hy
            exact ⟨hne, hr⟩
    · refine .inr ⟨(.ret, shS h f k' (some i') (some n') o6 o7 c a), ?_, nofun, .inr ⟨k', i', n', o6, o7, c, a, hc, rfl⟩⟩
      cases o6 <;> cases o7 <;>
      (simp [shS, encIns, encFn, lpK, lv104, Tryz.f104] at e
       simp (disch := omega) [round_eq, shS, encIns, encFn, Tryz.f104, lv104, q, hl, hlt, hltI, e, wrap_i64, -getElem?_pos])
  · have : k = f.blocks.length := by omega
    subst this
    refine .inr ⟨(.exit 0, shS h f f.blocks.length none none none none 0 0), ?_, nofun, .inl ⟨rfl, fun l hl => ?_⟩⟩
    · simp (disch := omega) [round_eq, shS, encFn, Tryz.f104, lv104, q, -getElem?_pos]
    · obtain ⟨t, ht⟩ := List.getElem?_of_mem hl
      exact j2 t l ht (List.getElem?_eq_some_iff.1 ht).1

theorem shaped (h : Heap) (f : Fn) (hf : f.Ok) (hn : f.blocks.length ≤ 1000) (hc : ∀ l, l ∈ f.blocks → l.length ≤ 100000) :
    ∃ c a : Int, CX 104 [.agg (encFn f)] h = some (.agg [.int .i64 c, .int .i64 a], h, []) ∧ (c = 0 → 0 < f.blocks.length ∧ ShOK f) := by
  have hk : cfg.keep 104 = 0 := rfl
  have q := qt104
  simp [Tryz.f104, quietFn, quietRegs] at q
  by_cases h0 : f.blocks.length = 0
  · refine ⟨15, 0, CI_of Tryz.func104 rfl 0 ?_, fun h => by simp at h⟩
    simp (disch := omega) [Tryz.f104, lv104, hk, encFn, h0, -getElem?_pos]
  · have hB : (((f.blocks.length : Nat) : Int) == 0) = false := by rw [beq_eq_false_iff_ne]; omega
    obtain ⟨r, e, hr⟩ := sh_a h f hf hn hc
    rcases hr with ⟨rfl, hr⟩ | ⟨k', i', n', o6, o7, c, a, hc, rfl⟩
    · refine ⟨0, 0, CI_of Tryz.func104 rfl 0 ?_, fun _ => ⟨by omega, hr⟩⟩
      simp [shS, encIns, encFn, lpK, lv104, Tryz.f104] at e
      simp (disch := omega) [Tryz.f104, lv104, hk, encFn, h0, hB, e, -getElem?_pos]
    · refine ⟨c, a, CI_of Tryz.func104 rfl 0 ?_, fun h => absurd h hc⟩
      cases o6 <;> cases o7 <;>
      (simp [shS, encIns, encFn, lpK, lv104, Tryz.f104] at e
       simp (disch := omega) [Tryz.f104, lv104, hk, encFn, h0, hB, e, -getElem?_pos])
end Go.Proofs.YtdkknhpdjcdmfaaGreat.Abs

/- Is a function no more than is waited for? What is known of it then; functions as they are handed in. -/
set_option linter.unusedSimpArgs false
set_option linter.unusedVariables false
namespace Go.Proofs.YtdkknhpdjcdmfaaGreat.Abs
open Go Go.RowKit Go.Proofs

def ltS (h : Heap) (f : Fn) (i n : Nat) (o5 : Option Nat) (r : Int) : St :=
  ⟨[(1, .one (.ptr h.length 1 0 0)), (4, I (i : Nat)), (3, I (n : Nat)), (5, natV o5), (2, I r), (1005, .junk)], h ++ [some (.row 5 [encFn f])], []⟩
def LtRet (h : Heap) (f : Fn) (r : AX × St) : Prop := ∃ (i n : Nat) (o5 : Option Nat), r = (.ret, ltS h f i n o5 1)
theorem lt_in (h : Heap) (f : Fn) (hn : f.blocks.length ≤ 1000) (i n : Nat) (l : List Ins) (hl : f.blocks[i]? = some l) (hll : l.length ≤ 100000) (hok : ∀ x, x ∈ l → x.Ok) :
    ∃ r, lpK 84 Tryz.f84 66 1 h (ltS h f i n (some 0) 0) = some r ∧ ((r = (.exit 2, ltS h f i n (some l.length) 0) ∧ ∀ x, x ∈ l → x.to.length ≤ 30) ∨ LtRet h f r) := by
  have hkl := (List.getElem?_eq_some_iff.1 hl).1
  refine loop_rel (P := Tryz.prog) (C := cfg) (sc := runScope Tryz.prog cfg 66 h.length (cfg.live 84) 0) (N := 66) (n0 := h.length) (K := cfg.live 84) (c := loopAt Tryz.f84 1)
    (fun j : Nat => ltS h f i n (some j) 0) (fun j => j ≤ l.length ∧ ∀ (t : Nat) x, l[t]? = some x → t < j → x.to.length ≤ 30) (fun j => l.length - j)
    (fun _ r => (r = (.exit 2, ltS h f i n (some l.length) 0) ∧ ∀ x, x ∈ l → x.to.length ≤ 30) ∨ LtRet h f r) ?_ 0 ⟨Nat.zero_le _, fun t b _ ht => by omega⟩
  rintro j ⟨j1, j2⟩
  rcases Nat.lt_or_ge j l.length with hlt | hge
  · have hltI : ((j : Nat) : Int) < ((l.length : Nat) : Int) := by omega
    obtain ⟨x, hx⟩ : ∃ x, l[j]? = some x := ⟨_, List.getElem?_eq_getElem hlt⟩
    have hxo := hok x (List.mem_of_getElem? hx)
    have hxt := hxo.to
    have hxa := hxo.args
    by_cases ht : 30 < x.to.length
    · have htI : (30 : Int) < ((x.to.length : Nat) : Int) := by omega
      refine .inr ⟨(.ret, ltS h f i n (some j) 1), ?_, nofun, .inr ⟨i, n, some j, rfl⟩⟩
      simp (disch := omega) [round_eq, ltS, encIns, encFn, Tryz.f84, lv84, hl, hkl, hx, hlt, hltI, ht, htI, wrap_i64, -getElem?_pos]
    · have htI : ¬ (30 : Int) < ((x.to.length : Nat) : Int) := by omega
      by_cases ha : 30 < x.args.length
      · have haI : (30 : Int) < ((x.args.length : Nat) : Int) := by omega
        refine .inr ⟨(.ret, ltS h f i n (some j) 1), ?_, nofun, .inr ⟨i, n, some j, rfl⟩⟩
        simp (disch := omega) [round_eq, ltS, encIns, encFn, Tryz.f84, lv84, hl, hkl, hx, hlt, hltI, ht, htI, ha, haI, wrap_i64, -getElem?_pos]
      · have haI : ¬ (30 : Int) < ((x.args.length : Nat) : Int) := by omega
        by_cases hm : 100 < x.name.length
        · have hmI : (100 : Int) < ((x.name.length : Nat) : Int) := by omega
          refine .inr ⟨(.ret, ltS h f i n (some j) 1), ?_, nofun, .inr ⟨i, n, some j, rfl⟩⟩
          simp (disch := omega) [round_eq, ltS, encIns, encFn, Tryz.f84, lv84, hl, hkl, hx, hlt, hltI, ht, htI, ha, haI, hm, hmI, wrap_i64, -getElem?_pos]
        · have hmI : ¬ (100 : Int) < ((x.name.length : Nat) : Int) := by omega
          refine .inl ⟨j + 1, ?_, ⟨hlt, fun t y hy ht' => ?_⟩, by omega, fun r h => h⟩
          · simp (disch := omega) [round_eq, ltS, encIns, encFn, Tryz.f84, lv84, hl, hkl, hx, hlt, hltI, ht, htI, ha, haI, hm, hmI, wrap_i64, -getElem?_pos]
          · rcases Nat.lt_or_ge t j with htj | htj
            · exact j2 t y hy htj
            · obtain rfl : t = j := by omega
              rw [hx] at hy; cases hy
              omega
  · have : j = l.length := by omega
    subst this
    refine .inr ⟨(.exit 2, ltS h f i n (some l.length) 0), ?_, nofun, .inl ⟨rfl, fun x hx => ?_⟩⟩
    · simp (disch := omega) [round_eq, ltS, encIns, encFn, Tryz.f84, lv84, hl, hkl, -getElem?_pos]
    · obtain ⟨t, ht⟩ := List.getElem?_of_mem hx
      exact j2 t x ht (List.getElem?_eq_some_iff.1 ht).1

def LtOK (l : List Ins) : Prop := l.length ≤ 150 ∧ ∀ x, x ∈ l → x.to.length ≤ 30
theorem lt_out (h : Heap) (f : Fn) (hf : f.Ok) (hn : f.blocks.length ≤ 1000) :
    ∃ r, lpK 84 Tryz.f84 66 0 h (ltS h f 0 0 none 0) = some r ∧ ((∃ n, r = (.exit 0, ltS h f f.blocks.length n none 0) ∧ ∀ l, l ∈ f.blocks → LtOK l) ∨ LtRet h f r) := by
  refine loop_rel (P := Tryz.prog) (C := cfg) (sc := runScope Tryz.prog cfg 66 h.length (cfg.live 84) 0) (N := 66) (n0 := h.length) (K := cfg.live 84) (c := loopAt Tryz.f84 0)
    (fun s : Nat × Nat => ltS h f s.1 s.2 none 0) (fun s => s.1 ≤ f.blocks.length ∧ s.2 ≤ 150 ∧ ∀ (t : Nat) l, f.blocks[t]? = some l → t < s.1 → LtOK l) (fun s => f.blocks.length - s.1)
    (fun _ r => (∃ n, r = (.exit 0, ltS h f f.blocks.length n none 0) ∧ ∀ l, l ∈ f.blocks → LtOK l) ∨ LtRet h f r) ?_ (0, 0) ⟨Nat.zero_le _, by simp, fun t b _ ht => by simp only at ht; omega⟩
  rintro ⟨i, n⟩ ⟨j1, j2, j3⟩
  simp only at j1 j2 j3 ⊢
  rcases Nat.lt_or_ge i f.blocks.length with hlt | hge
  · have hltI : ((i : Nat) : Int) < ((f.blocks.length : Nat) : Int) := by omega
    obtain ⟨l, hl⟩ : ∃ l, f.blocks[i]? = some l := ⟨_, List.getElem?_eq_getElem hlt⟩
    have hm := List.mem_of_getElem? hl
    have hlf := hf.code l hm
    by_cases hb : 150 < n + l.length
    · have hbI : (150 : Int) < ((n : Nat) : Int) + ((l.length : Nat) : Int) := by omega
      refine .inr ⟨(.ret, ltS h f i (n + l.length) none 1), ?_, nofun, .inr ⟨i, n + l.length, none, rfl⟩⟩
      simp (disch := omega) [round_eq, ltS, encFn, Tryz.f84, lv84, hl, hlt, hltI, hb, hbI, wrap_i64, -getElem?_pos]
    · have hbI : ¬ (150 : Int) < ((n : Nat) : Int) + ((l.length : Nat) : Int) := by omega
      obtain ⟨r, e, hr⟩ := lt_in h f hn i (n + l.length) l hl (by omega) (hf.each l hm)
      rcases hr with ⟨rfl, hr⟩ | ⟨i', n', o5, rfl⟩
      · refine .inl ⟨(i + 1, n + l.length), ?_, ⟨hlt, by simp only; omega, fun t y hy ht => ?_⟩, by simp only; omega, fun r h => h⟩
        · simp [ltS, encFn, lpK, lv84, Tryz.f84] at e
          simp (disch := omega) [round_eq, ltS, encFn, Tryz.f84, lv84, hl, hlt, hltI, hb, hbI, e, wrap_i64, -getElem?_pos]
        · rcases Nat.lt_or_ge t i with hti | hti
          · exact j3 t y hy hti
          · obtain rfl : t = i := by simp only at ht; omega
            rw [hl] at hy; cases hy
            exact ⟨by omega, hr⟩
      · refine .inr ⟨(.ret, ltS h f i' n' o5 1), ?_, nofun, .inr ⟨i', n', o5, rfl⟩⟩
        cases o5 <;>
        (simp [ltS, encFn, lpK, lv84, Tryz.f84] at e
         simp (disch := omega) [round_eq, ltS, encFn, Tryz.f84, lv84, hl, hlt, hltI, hb, hbI, e, wrap_i64, -getElem?_pos])
  · have : i = f.blocks.length := by omega
    subst this
    refine .inr ⟨(.exit 0, ltS h f f.blocks.length n none 0), ?_, nofun, .inl ⟨n, rfl, fun l hl => ?_⟩⟩
    · simp (disch := omega) [round_eq, ltS, encFn, Tryz.f84, lv84, -getElem?_pos]
    · obtain ⟨t, ht⟩ := List.getElem?_of_mem hl
      exact j3 t l ht (List.getElem?_eq_some_iff.1 ht).1

theorem light8 (h : Heap) (f : Fn) (hf : f.Ok) :
    ∃ r : Int, CX 84 [.agg (encFn f)] h = some (I r, h, []) ∧ (r = 0 → 0 < f.blocks.length ∧ f.blocks.length ≤ 24 ∧ ShOK f ∧ ∀ l, l ∈ f.blocks → LtOK l) := by
  have hk : cfg.keep 84 = 0 := rfl
  have hb := hf.blocks
  by_cases h24 : 24 < f.blocks.length
  · have h24I : (24 : Int) < ((f.blocks.length : Nat) : Int) := by omega
    refine ⟨1, CI_of Tryz.func84 rfl 0 ?_, fun h => by simp at h⟩
    simp (disch := omega) [Tryz.f84, lv84, hk, encFn, h24, h24I, -getElem?_pos]
  · have h24I : ¬ (24 : Int) < ((f.blocks.length : Nat) : Int) := by omega
    obtain ⟨r, e, hr⟩ := lt_out h f hf (by omega)
    rcases hr with ⟨n, rfl, hr⟩ | ⟨i', n', o5, rfl⟩
    · obtain ⟨c, a, e2, hs⟩ := shaped [] f hf (by omega) (fun l hl => by have := (hr l hl).1; omega)
      simp [ltS, encFn, lpK, lv84, Tryz.f84] at e
      simp [encFn] at e2
      by_cases hc : c = 0
      · subst hc
        refine ⟨0, CI_of Tryz.func84 rfl 0 ?_, fun _ => ⟨(hs rfl).1, by omega, (hs rfl).2, hr⟩⟩
        simp (disch := omega) [Tryz.f84, lv84, hk, encFn, h24, h24I, e, e2, -getElem?_pos]
      · have hcB : (c != 0) = true := by simp [hc]
        refine ⟨1, CI_of Tryz.func84 rfl 0 ?_, fun h => by simp at h⟩
        simp (disch := omega) [Tryz.f84, lv84, hk, encFn, h24, h24I, e, e2, hcB, -getElem?_pos]
    · refine ⟨1, CI_of Tryz.func84 rfl 0 ?_, fun h => by simp at h⟩
      cases o5 <;>
      (simp [ltS, encFn, lpK, lv84, Tryz.f84] at e
       simp (disch := omega) [Tryz.f84, lv84, hk, encFn, h24, h24I, e, -getElem?_pos])

theorem foldU_mem : ∀ (xs out : List Int) (b : Int), b ∈ xs.foldl addU out → b ∈ out ∨ b ∈ xs
  | [], out, b, h => .inl h
  | x :: xs, out, b, h => by
    rw [List.foldl_cons] at h
    rcases foldU_mem xs _ b h with h | h
    · unfold addU at h
      split at h
      · exact .inl h
      · rcases List.mem_append.1 h with h | h
        · exact .inl h
        · rw [List.mem_singleton.1 h]; exact .inr (by simp)
    · exact .inr (by simp [h])
theorem fine_of {f : Fn} (hf : f.Ok) (hn : f.blocks.length ≤ 24) (hs : ShOK f) (hl : ∀ l, l ∈ f.blocks → LtOK l) : f.Fine := by
  refine ⟨hf, fun l h => (hs l h).1, by omega, ⟨by simp; omega, fun m hm => ?_⟩⟩
  obtain ⟨l, h1, rfl⟩ := List.mem_map.1 hm
  obtain ⟨g1, g2⟩ := hs l h1
  have hp := List.length_pos_iff.2 g1
  obtain ⟨x, hx⟩ : ∃ x, l[l.length - 1]? = some x := ⟨_, List.getElem?_eq_getElem (by omega)⟩
  have hto : toB l = x.to := by unfold toB; rw [hx]
  have hxl := (hl l h1).2 x (List.mem_of_getElem? hx)
  obtain ⟨k1, k2⟩ := g2 _ x hx
  have hdd : decide (l.length - 1 + 1 = l.length) = true := decide_eq_true (by omega)
  rw [hdd] at k1
  have hop : x.op ≠ 20 := fun e => by rw [e] at k1; simp [endsB] at k1
  refine ⟨?_, fun b hb => ?_⟩
  · have := foldU_len (toB l) []
    unfold nextB
    rw [hto] at this ⊢
    simp at this
    omega
  · unfold nextB at hb
    rcases foldU_mem _ _ _ hb with h | h
    · simp at h
    · rw [hto] at h
      simpa using k2 hop b h

theorem light10 (h : Heap) (f : Fn) (hf : f.Ok) :
    ∃ b : Bool, CX 37 [.agg (encFn f)] h = some (Bo b, h, []) ∧ (b = true → f.Fine ∧ 0 < f.blocks.length ∧ f.blocks.length ≤ 10) := by
  have hk : cfg.keep 37 = 0 := rfl
  have hb := hf.blocks
  obtain ⟨r, e, hr⟩ := light8 [] f hf
  simp [encFn] at e
  by_cases h0 : r = 0
  · subst h0
    obtain ⟨g1, g2, g3, g4⟩ := hr rfl
    refine ⟨decide (f.blocks.length ≤ 10), CI_of Tryz.func37 rfl 0 ?_, fun h => ⟨fine_of hf g2 g3 g4, g1, of_decide_eq_true h⟩⟩
    have hd : decide (((f.blocks.length : Nat) : Int) ≤ 10) = decide (f.blocks.length ≤ 10) := by rw [decide_eq_decide]; omega
    simp (disch := omega) [Tryz.f37, hk, encFn, e, hd, -getElem?_pos]
  · have hB : (r == 0) = false := by simp [h0]
    refine ⟨false, CI_of Tryz.func37 rfl 0 ?_, nofun⟩
    simp (disch := omega) [Tryz.f37, hk, encFn, e, hB, -getElem?_pos]

/-! Functions as they are handed in. -/
theorem list_of' {α β : Type} {f : α → β} : ∀ {es : List β}, (∀ x, x ∈ es → ∃ a, x = f a) → ∃ l : List α, es = l.map f ∧ l.length = es.length
  | [], _ => ⟨[], rfl, rfl⟩
  | e :: es, h => by
    obtain ⟨a, ha⟩ := h e List.mem_cons_self
    obtain ⟨l, hl, hn⟩ := list_of' (es := es) fun x hx => h x (List.mem_cons_of_mem _ hx)
    exact ⟨a :: l, by rw [ha, hl]; rfl, by simp [hn]⟩
theorem reach_fit' {α : Type} {xs : List α} {b : Nat} (hb : 8 ≤ b) (h : xs.length * b ≤ reachBytes) : Fit xs := by
  unfold reachBytes at h
  have : xs.length * 8 ≤ xs.length * b := Nat.mul_le_mul_left _ hb
  show xs.length ≤ _
  omega
theorem typed_ints' {ls : List Leaf} (h : Typed (.slice (.int .i64)) ls) : ∃ xs : List Int, ls = [.isl (intsOf xs)] ∧ Fit xs := by
  simp only [Typed] at h
  obtain ⟨es, rfl, h1, h2⟩ := h
  obtain ⟨xs, rfl, hl⟩ := list_of' (f := fun n : Int => [Leaf.int .i64 n]) (es := es) fun x hx => by
    obtain ⟨n, hn, _⟩ := h2 x hx; exact ⟨n, hn⟩
  exact ⟨xs, rfl, reach_fit' (b := 8) (by omega) (by rw [hl]; exact h1)⟩
theorem typed_int {ls : List Leaf} (h : Typed (.int .i64) ls) : ∃ n : Int, ls = [.int .i64 n] := by
  simp only [Typed] at h
  obtain ⟨n, rfl, _⟩ := h
  exact ⟨n, rfl⟩
theorem typed_str {ls : List Leaf} (h : Typed .str ls) : ∃ s : List UInt8, ls = [.str s] := by
  simp only [Typed] at h
  obtain ⟨n, rfl, _⟩ := h
  exact ⟨n, rfl⟩
def tIns : Ty := .struct [.int .i64, .int .i64, .int .i64, .int .i64, .slice (.int .i64), .slice (.int .i64), .str, .int .i64]
def tFn : Ty := .struct [.str, .slice (.int .i64), .int .i64, .slice (.slice tIns), .int .i64]
theorem typed_ins {ls : List Leaf} (h : Typed tIns ls) : ∃ x : { x : Ins // x.Ok }, ls = encIns x.1 := by
  simp only [Typed, tIns, TypedAll] at h
  obtain ⟨_, _, rfl, g1, _, _, rfl, g2, _, _, rfl, g3, _, _, rfl, g4, _, _, rfl, g5, _, _, rfl, g6, _, _, rfl, g7, _, _, rfl, g8, rfl⟩ := h
  obtain ⟨a, rfl, _⟩ := g1
  obtain ⟨b, rfl, _⟩ := g2
  obtain ⟨c, rfl, _⟩ := g3
  obtain ⟨d, rfl, _⟩ := g4
  obtain ⟨e, rfl, he⟩ := typed_ints' (by simpa only [Typed] using g5)
  obtain ⟨t, rfl, ht⟩ := typed_ints' (by simpa only [Typed] using g6)
  obtain ⟨s, rfl, _⟩ := g7
  obtain ⟨w, rfl, _⟩ := g8
  exact ⟨⟨⟨a, b, c, d, e, t, s, w⟩, ⟨he, ht⟩⟩, rfl⟩
theorem typed_code {ls : List Leaf} (h : Typed (.slice tIns) ls) : ∃ l : { l : List Ins // Fit l ∧ ∀ x, x ∈ l → x.Ok }, ls = [.isl (codeOf l.1)] := by
  unfold Typed at h
  obtain ⟨es, rfl, h1, h2⟩ := h
  obtain ⟨xs, rfl, hl⟩ := list_of' (f := fun x : { x : Ins // x.Ok } => encIns x.1) (es := es) fun x hx => typed_ins (h2 x hx)
  refine ⟨⟨xs.map (·.1), ?_, fun x hx => ?_⟩, by simp [codeOf, List.map_map]⟩
  · have := reach_fit' (xs := xs) (b := 32) (by omega) (by rw [hl]; exact h1)
    simpa [Fit] using this
  · obtain ⟨y, _, rfl⟩ := List.mem_map.1 hx; exact y.2
theorem typed_fn {v : V} (h : TypedV tFn v) : ∃ f : Fn, v = .agg (encFn f) ∧ f.Ok := by
  obtain ⟨ls, rfl, h⟩ := h
  simp only [TypedAll] at h
  obtain ⟨_, _, rfl, g1, _, _, rfl, g2, _, _, rfl, g3, _, _, rfl, g4, _, _, rfl, g5, rfl⟩ := h
  obtain ⟨nm, rfl⟩ := typed_str g1
  obtain ⟨ps, rfl, hps⟩ := typed_ints' g2
  obtain ⟨rt, rfl⟩ := typed_int g3
  unfold Typed at g4
  obtain ⟨es, rfl, h1, h2⟩ := g4
  obtain ⟨w, rfl⟩ := typed_int g5
  obtain ⟨bs, rfl, hl⟩ := list_of' (f := fun l : { l : List Ins // Fit l ∧ ∀ x, x ∈ l → x.Ok } => [Leaf.isl (codeOf l.1)]) (es := es) fun x hx => typed_code (h2 x hx)
  refine ⟨⟨nm, ps, rt, bs.map (·.1), w⟩, by simp [encFn, blksOf, List.map_map, Function.comp_def], ⟨hps, ?_, fun l hl => ?_, fun l hl => ?_⟩⟩
  · have := reach_fit' (xs := bs) (b := 24) (by omega) (by rw [hl]; exact h1)
    simpa [Fit] using this
  · obtain ⟨y, _, rfl⟩ := List.mem_map.1 hl; exact y.2.1
  · obtain ⟨y, _, rfl⟩ := List.mem_map.1 hl; exact y.2.2
end Go.Proofs.YtdkknhpdjcdmfaaGreat.Abs

/- The loops of a function: their heads, from where they are gone back to, their blocks. -/
set_option linter.unusedSimpArgs false
set_option linter.unusedVariables false
namespace Go.Proofs.YtdkknhpdjcdmfaaGreat.Abs
open Go Go.RowKit Go.Proofs

def ofS (h : Heap) (v21 v20 v5 v26 v25 v24 v6 : V) (o7 : Option (List Int)) (v3 v80 v79 : V) (ls : List Lp) : St :=
  ⟨[(21, v21), (20, v20), (5, v5), (26, v26), (25, v25), (24, v24), (6, v6), (7, slV h.length o7), (3, v3), (11, .junk), (54, .junk), (53, .junk), (10, .junk), (4, .one (.sl (h.length + 2) 4 ls.length 0 ls.length)), (80, v80), (79, v79),
    (1026, .junk), (1025, .junk), (1024, .junk), (1006, .junk), (1007, .junk), (1010, .junk), (1011, .junk), (1054, .junk), (1053, .junk), (1021, .junk), (1020, .junk), (1005, .junk), (1003, .junk)],
   h ++ [slO o7, none, some (.row 4 (lpsOf ls))], []⟩
def ofB (h : Heap) (v21 v20 v5 v26 v25 v24 : V) (hd : Int) (fr : List Int) (v3 : V) (met : List Bool) (k : Nat) (bl : List Int) (ls : List Lp) : St :=
  ⟨[(21, v21), (20, v20), (5, v5), (26, v26), (25, v25), (24, v24), (6, I hd), (7, .one (.sl h.length 1 fr.length 0 fr.length)), (3, v3), (11, Sl (boolsOf met)), (54, I (k : Nat)), (53, I (met.length : Nat)), (10, .one (.ptr (h.length + 1) 1 0 0)), (4, .one (.sl (h.length + 3) 4 ls.length 0 ls.length)), (80, .junk), (79, .junk),
    (1026, .junk), (1025, .junk), (1024, .junk), (1006, .junk), (1007, .junk), (1010, .junk), (1011, .junk), (1054, .junk), (1053, .junk), (1021, .junk), (1020, .junk), (1005, .junk), (1003, .junk)],
   h ++ [some (.row 1 (intsOf fr)), some (.row 4 [[.int .i64 hd, .sl (h.length + 2) 1 bl.length 0 bl.length, .sl h.length 1 fr.length 0 fr.length, .int .i64 (-1)]]), some (.row 1 (intsOf bl)), some (.row 4 (lpsOf ls))], []⟩

/-- From where a head is gone back to. -/
def addB (hd : Int) (acc : List Int) (e : Int × Int) : List Int := if e.2 = hd then acc ++ [e.1] else acc
def backsOf (hd : Int) (es : List (Int × Int)) : List Int := es.foldl (addB hd) []
theorem addB_len (hd : Int) (acc : List Int) (e : Int × Int) : (addB hd acc e).length ≤ acc.length + 1 := by unfold addB; split <;> simp
theorem foldB_mem (hd : Int) : ∀ (es : List (Int × Int)) (acc : List Int) (x : Int), x ∈ es.foldl (addB hd) acc → x ∈ acc ∨ (x, hd) ∈ es
  | [], acc, x, h => .inl h
  | e :: es, acc, x, h => by
    rw [List.foldl_cons] at h
    rcases foldB_mem hd es _ x h with h | h
    · unfold addB at h
      split at h
      · rename_i he
        rcases List.mem_append.1 h with h | h
        · exact .inl h
        · rw [List.mem_singleton.1 h, ← he]; exact .inr (by simp)
      · exact .inl h
    · exact .inr (by simp [h])
theorem foldB_len (hd : Int) : ∀ (es : List (Int × Int)) (acc : List Int), (es.foldl (addB hd) acc).length ≤ acc.length + es.length
  | [], acc => by simp
  | e :: es, acc => by
    have h1 := foldB_len hd es (addB hd acc e)
    have h2 := addB_len hd acc e
    simp only [List.foldl_cons, List.length_cons]
    omega

theorem of_1 (h : Heap) (v21 v20 v3 : V) (hv : ∃ a b : Int, v21 = I a ∧ v20 = I b) (prs : List (List Int)) (hv3 : v3 = Sl (listsOf prs)) (hd : Int) (es : List (Int × Int)) (hes : es.length ≤ 100000) (ls : List Lp) :
    lpK 39 Tryz.f39 92 1 h (ofS h v21 v20 (Sl (pairsOf es)) (I (0 : Nat)) (I (es.length : Nat)) (Sl (pairsOf es)) (I hd) (some []) v3 .junk .junk ls) =
      some (.exit 2, ofS h v21 v20 (Sl (pairsOf es)) (I (es.length : Nat)) (I (es.length : Nat)) (Sl (pairsOf es)) (I hd) (some (backsOf hd es)) v3 .junk .junk ls) := by
  obtain ⟨a, b, rfl, rfl⟩ := hv
  subst hv3
  refine loop_list (P := Tryz.prog) (C := cfg) (sc := runScope Tryz.prog cfg 92 h.length (cfg.live 39) 0) (N := 92) (n0 := h.length) (K := cfg.live 39) (c := loopAt Tryz.f39 1) es (addB hd)
    (fun j acc => ofS h (I a) (I b) (Sl (pairsOf es)) (I (j : Nat)) (I (es.length : Nat)) (Sl (pairsOf es)) (I hd) (some acc) (Sl (listsOf prs)) .junk .junk ls)
    (fun acc => (.exit 2, ofS h (I a) (I b) (Sl (pairsOf es)) (I (es.length : Nat)) (I (es.length : Nat)) (Sl (pairsOf es)) (I hd) (some acc) (Sl (listsOf prs)) .junk .junk ls)) (fun j acc => acc.length ≤ j) ?_ ?_ [] (by simp)
  · intro j acc e he hl
    have hj := (List.getElem?_eq_some_iff.1 he).1
    have hjI : ((j : Nat) : Int) < ((es.length : Nat) : Int) := by omega
    refine ⟨?_, by have := addB_len hd acc e; omega⟩
    obtain ⟨e1, e2⟩ := e
    by_cases hh : e2 = hd
    · have ha : addB hd acc (e1, e2) = acc ++ [e1] := by unfold addB; rw [if_pos hh]
      rw [ha]
      subst hh
      simp (disch := (first | omega | simp (disch := omega) [])) [round_eq, ofS, Tryz.f39, lv39, he, hj, hjI, room_of, intsOf_snoc, wrap_i64, -getElem?_pos]
    · have ha : addB hd acc (e1, e2) = acc := by unfold addB; rw [if_neg hh]
      rw [ha]
      have hhB : (e2 == hd) = false := by simp [hh]
      simp (disch := (first | omega | simp (disch := omega) [])) [round_eq, ofS, Tryz.f39, lv39, he, hj, hjI, hh, hhB, room_of, intsOf_snoc, wrap_i64, -getElem?_pos]
  · intro acc hl
    refine ⟨?_, nofun⟩
    simp (disch := (first | omega | simp (disch := omega) [])) [round_eq, ofS, Tryz.f39, lv39, -getElem?_pos]

/-- A loop's blocks, so far. -/
def blkF (met : List Bool) (hd : Int) (k : Nat) : List Int := ((List.range k).filter fun j => met.getD j false || decide (((j : Nat) : Int) = hd)).map fun j => ((j : Nat) : Int)
theorem blkF_next (met : List Bool) (hd : Int) (k : Nat) : blkF met hd (k + 1) = if (met.getD k false || decide (((k : Nat) : Int) = hd)) = true then blkF met hd k ++ [(k : Int)] else blkF met hd k := by
  unfold blkF
  rw [List.range_succ, List.filter_append, List.map_append]
  cases hc : (met.getD k false || decide (((k : Nat) : Int) = hd)) with
  | true => rw [List.filter_cons_of_pos (by rw [hc]), List.filter_nil, if_pos rfl]; rfl
  | false => rw [List.filter_cons_of_neg (by rw [hc]; simp), List.filter_nil, if_neg (by simp)]; simp
theorem blkF_len (met : List Bool) (hd : Int) (k : Nat) : (blkF met hd k).length ≤ k := by
  unfold blkF
  rw [List.length_map]
  have := List.length_filter_le (fun j => met.getD j false || decide (((j : Nat) : Int) = hd)) (List.range k)
  simpa using this
theorem blkF_mem {met : List Bool} {hd : Int} {n k : Nat} : (k : Int) ∈ blkF met hd n ↔ k < n ∧ (Mt met k ∨ (k : Int) = hd) := by
  unfold blkF
  have gD : met.getD k false = true ↔ Mt met k := by
    unfold Mt
    rw [List.getD]
    cases met[k]? with
    | none => simp
    | some x => simp
  constructor
  · intro h
    obtain ⟨j, hj, e⟩ := List.mem_map.1 h
    obtain ⟨h1, h2⟩ := List.mem_filter.1 hj
    obtain rfl : j = k := by omega
    rw [Bool.or_eq_true, gD, decide_eq_true_iff] at h2
    exact ⟨by simpa using h1, h2⟩
  · rintro ⟨h1, h2⟩
    refine List.mem_map.2 ⟨k, List.mem_filter.2 ⟨by simpa using h1, ?_⟩, rfl⟩
    rw [Bool.or_eq_true, gD, decide_eq_true_iff]
    exact h2
theorem of_2 (h : Heap) (a b c d : Int) (es es' : List (Int × Int)) (hd : Int) (fr : List Int) (prs : List (List Int)) (met : List Bool) (hm : met.length ≤ 1000) (ls : List Lp) :
    lpK 39 Tryz.f39 92 2 h (ofB h (I a) (I b) (Sl (pairsOf es)) (I c) (I d) (Sl (pairsOf es')) hd fr (Sl (listsOf prs)) met 0 [] ls) =
      some (.exit 4, ofB h (I a) (I b) (Sl (pairsOf es)) (I c) (I d) (Sl (pairsOf es')) hd fr (Sl (listsOf prs)) met met.length (blkF met hd met.length) ls) := by
  have key := loop_fun (P := Tryz.prog) (C := cfg) (sc := runScope Tryz.prog cfg 92 h.length (cfg.live 39) 0) (N := 92) (n0 := h.length) (K := cfg.live 39) (c := loopAt Tryz.f39 2)
    (fun k : Nat => ofB h (I a) (I b) (Sl (pairsOf es)) (I c) (I d) (Sl (pairsOf es')) hd fr (Sl (listsOf prs)) met k (blkF met hd k) ls) (fun k => k ≤ met.length) (fun k => met.length - k)
    (fun _ => (.exit 4, ofB h (I a) (I b) (Sl (pairsOf es)) (I c) (I d) (Sl (pairsOf es')) hd fr (Sl (listsOf prs)) met met.length (blkF met hd met.length) ls)) ?_ 0 (Nat.zero_le _)
  · exact key
  intro k hk
  have hbl := blkF_len met hd k
  rcases Nat.lt_or_ge k met.length with hlt | hge
  · have hltI : ((k : Nat) : Int) < ((met.length : Nat) : Int) := by omega
    obtain ⟨x, hx⟩ : ∃ x, met[k]? = some x := ⟨_, List.getElem?_eq_getElem hlt⟩
    have hxD : met.getD k false = x := by rw [List.getD, hx]; rfl
    refine .inl ⟨k + 1, ?_, hlt, by omega, rfl⟩
    rw [blkF_next, hxD]
    generalize blkF met hd k = bl at hbl ⊢
    cases x with
    | true =>
      rw [if_pos (by simp)]
      simp (disch := (first | omega | simp (disch := omega) [])) [round_eq, ofB, Tryz.f39, lv39, hx, hlt, hltI, room_of, intsOf_snoc, wrap_i64, -getElem?_pos]
    | false =>
      by_cases hh : ((k : Nat) : Int) = hd
      · rw [if_pos (by simp [hh])]
        subst hh
        simp (disch := (first | omega | simp (disch := omega) [])) [round_eq, ofB, Tryz.f39, lv39, hx, hlt, hltI, room_of, intsOf_snoc, wrap_i64, -getElem?_pos]
      · rw [if_neg (by simp [hh])]
        have hhB : (((k : Nat) : Int) == hd) = false := by simp [hh]
        simp (disch := (first | omega | simp (disch := omega) [])) [round_eq, ofB, Tryz.f39, lv39, hx, hlt, hltI, hhB, hh, room_of, intsOf_snoc, wrap_i64, -getElem?_pos]
  · have : k = met.length := by omega
    subst this
    refine .inr ⟨?_, nofun⟩
    simp (disch := (first | omega | simp (disch := omega) [])) [round_eq, ofB, Tryz.f39, lv39, -getElem?_pos]
end Go.Proofs.YtdkknhpdjcdmfaaGreat.Abs

/- The loops of a function, head by head. -/
set_option linter.unusedSimpArgs false
set_option linter.unusedVariables false
set_option linter.unusedSectionVars false
namespace Go.Proofs.YtdkknhpdjcdmfaaGreat.Abs
open Go Go.RowKit Go.Proofs

/-- Loops so far: what they are; their heads rise. -/
structure LsOK (ss : List (List Int)) (i : Nat) (ls : List Lp) : Prop where
  len : ls.length ≤ i
  each : ∀ x, x ∈ ls → LpOK ss x ∧ x.blocks.length ≤ 1000 ∧ x.head < i
  rise : ls.Pairwise fun x y => x.head < y.head
theorem LsOK.step {ss : List (List Int)} {i : Nat} {ls : List Lp} (h : LsOK ss i ls) : LsOK ss (i + 1) ls :=
  ⟨by have := h.len; omega, fun x hx => by obtain ⟨h1, h2, h3⟩ := h.each x hx; exact ⟨h1, h2, by omega⟩, h.rise⟩
theorem LsOK.snoc {ss : List (List Int)} {i : Nat} {ls : List Lp} (h : LsOK ss i ls) {x : Lp} (hx : LpOK ss x) (hb : x.blocks.length ≤ 1000) (hh : x.head = (i : Int)) : LsOK ss (i + 1) (ls ++ [x]) := by
  refine ⟨by have := h.len; simp; omega, fun y hy => ?_, List.pairwise_append.2 ⟨h.rise, by simp, fun y hy z hz => ?_⟩⟩
  · rcases List.mem_append.1 hy with hy | hy
    · obtain ⟨h1, h2, h3⟩ := h.each y hy; exact ⟨h1, h2, by omega⟩
    · rw [List.mem_singleton.1 hy]; exact ⟨hx, hb, by omega⟩
  · rw [List.mem_singleton.1 hz, hh]
    exact (h.each y hy).2.2

section
variable {ss : List (List Int)} (hs : Edges ss) (hn0 : 0 < ss.length) (hn : ss.length ≤ 12)
include hs hn0 hn
/-- What a loop is. -/
theorem lp_ok {pl : Nat → Nat} {up : List Int} (D : Doms ss.length (fun v => (v : Int) ∈ orderF ss) pl (predsF ss) up) {es : List (Int × Int)} (hes : ∀ e, e ∈ es → BackE ss.length up e) (i : Nat) (hi : i < ss.length) {met : List Bool} (hml : met.length = ss.length) (hmt : ∀ v, Mt met v ↔ Rch (predsF ss) (backsOf (i : Int) es) (i : Int) v) (u : Int) :
    LpOK ss ⟨(i : Int), blkF met (i : Int) met.length, backsOf (i : Int) es, u⟩ := by
  refine ⟨⟨by simp only; omega, by simp only; omega⟩, fun k => ?_, fun k hk => ?_, fun e he => ?_⟩
  · simp only
    rw [blkF_mem, hmt, hml]
  · unfold blkF at hk
    obtain ⟨j, _, e⟩ := List.mem_map.1 hk
    omega
  · rcases foldB_mem _ _ _ _ he with h | h
    · simp at h
    · obtain ⟨x, y, e1, e2, hx, hy, dx, dy, ha⟩ := hes _ h
      simp only at e1 e2
      obtain rfl : x = i := by omega
      subst e2
      have hRx := (D.done x hx).1 dx
      have hRy := (D.done y hy).1 dy
      refine ⟨by omega, by omega, ?_, ?_, ?_⟩
      · rw [Int.toNat_natCast]; exact (rch_order hs hn0).2 hRy
      · simp only; rw [Int.toNat_natCast]; exact (rch_order hs hn0).2 hRx
      · rw [Int.toNat_natCast]; exact fun hr => doms_way hs hn0 D ha hr
/-- The loop over heads. -/
theorem of_0 (h : Heap) {pl : Nat → Nat} {up : List Int} (D : Doms ss.length (fun v => (v : Int) ∈ orderF ss) pl (predsF ss) up) {es : List (Int × Int)} (hel : es.length ≤ 100000) (hes : ∀ e, e ∈ es → BackE ss.length up e) :
    ∃ ls, LsOK ss ss.length ls ∧ lpK 39 Tryz.f39 92 0 h (ofS h (I (0 : Nat)) (I (ss.length : Nat)) (Sl (pairsOf es)) .junk .junk .junk .junk none (Sl (listsOf (predsF ss))) .junk .junk []) =
      some (.exit 0, ofS h (I (ss.length : Nat)) (I (ss.length : Nat)) (Sl (pairsOf es)) .junk .junk .junk .junk none (Sl (listsOf (predsF ss))) .junk .junk ls) := by
  have key := loop_rel (P := Tryz.prog) (C := cfg) (sc := runScope Tryz.prog cfg 92 h.length (cfg.live 39) 0) (N := 92) (n0 := h.length) (K := cfg.live 39) (c := loopAt Tryz.f39 0)
    (fun s : Nat × List Lp => ofS h (I (s.1 : Nat)) (I (ss.length : Nat)) (Sl (pairsOf es)) .junk .junk .junk .junk none (Sl (listsOf (predsF ss))) .junk .junk s.2) (fun s => s.1 ≤ ss.length ∧ LsOK ss s.1 s.2) (fun s => ss.length - s.1)
    (fun _ r => ∃ ls, LsOK ss ss.length ls ∧ r = (.exit 0, ofS h (I (ss.length : Nat)) (I (ss.length : Nat)) (Sl (pairsOf es)) .junk .junk .junk .junk none (Sl (listsOf (predsF ss))) .junk .junk ls)) ?_ (0, []) ⟨Nat.zero_le _, ⟨Nat.zero_le _, by simp, by simp⟩⟩
  · obtain ⟨r, h1, ls, h2, rfl⟩ := key
    exact ⟨ls, h2, h1⟩
  rintro ⟨i, ls⟩ ⟨j1, j2⟩
  simp only at j1 j2 ⊢
  have hll := j2.len
  rcases Nat.lt_or_ge i ss.length with hlt | hge
  · have hltI : ((i : Nat) : Int) < ((ss.length : Nat) : Int) := by omega
    have e1 := of_1 h (I (i : Nat)) (I (ss.length : Nat)) (Sl (listsOf (predsF ss))) ⟨_, _, rfl, rfl⟩ (predsF ss) rfl (i : Int) es hel ls
    have hfl := foldB_len (i : Int) es []
    have hfl2 : (backsOf (i : Int) es).length ≤ 100000 := by unfold backsOf; simp at hfl; omega
    by_cases hf0 : backsOf (i : Int) es = []
    · refine .inl ⟨(i + 1, ls), ?_, ⟨hlt, j2.step⟩, by simp only; omega, fun r h => h⟩
      rw [hf0] at e1
      simp [ofS, lpK, lv39, Tryz.f39] at e1
      simp (disch := (first | omega | simp (disch := omega) [])) [round_eq, ofS, Tryz.f39, lv39, hlt, hltI, e1, wrap_i64, -getElem?_pos]
    · have hfp := List.length_pos_iff.2 hf0
      have hfB : ((((backsOf (i : Int) es).length : Nat) : Int) == 0) = false := by rw [beq_eq_false_iff_ne]; omega
      have hprow : ∀ l, l ∈ predsF ss → l.length ≤ 100000 ∧ ∀ x, x ∈ l → 0 ≤ x ∧ x < (predsF ss).length := fun l hl => by
        have h1 := preds_len hs l hl
        refine ⟨by omega, fun x hx => ?_⟩
        rw [predsF_len]
        exact preds_row hs hl x hx
      have hbl : ∀ x, x ∈ backsOf (i : Int) es → 0 ≤ x ∧ x < (predsF ss).length := fun x hx => by
        rw [predsF_len]
        rcases foldB_mem _ _ _ _ hx with h | h
        · simp at h
        · obtain ⟨a, b, q1, q2, qa, qb, _⟩ := hes _ h
          simp only at q1 q2
          omega
      obtain ⟨met, m1, m2, e2⟩ := reached (h ++ [some (.row 1 (intsOf (backsOf (i : Int) es))), none, some (.row 4 (lpsOf ls)), some (.row 4 [[.int .i64 (i : Int), .nils, .sl h.length 1 (backsOf (i : Int) es).length 0 (backsOf (i : Int) es).length, .int .i64 (-1)]])]) h.length (predsF ss) (i : Int) (backsOf (i : Int) es) (by simp) hfl2 (by rw [predsF_len]; omega) hbl hprow
      rw [predsF_len] at m1
      have e3 := of_2 h (i : Int) (ss.length : Int) (es.length : Int) (es.length : Int) es es (i : Int) (backsOf (i : Int) es) (predsF ss) met (by omega) ls
      have hOK := lp_ok hs hn0 hn D hes i hlt m1 m2 (-1)
      have hbl2 := blkF_len met (i : Int) met.length
      refine .inl ⟨(i + 1, ls ++ [⟨(i : Int), blkF met (i : Int) met.length, backsOf (i : Int) es, -1⟩]), ?_, ⟨hlt, j2.snoc hOK (by simp only; omega) rfl⟩, by simp only; omega, fun r h => h⟩
      generalize backsOf (i : Int) es = fr at *
      generalize blkF met (i : Int) met.length = bl at *
      have hsn : lpsOf ls ++ [[Leaf.int .i64 (i : Int), .isl (intsOf bl), .isl (intsOf fr), .int .i64 (-1)]] = lpsOf (ls ++ [⟨(i : Int), bl, fr, -1⟩]) := lpsOf_snoc ls ⟨(i : Int), bl, fr, -1⟩
      simp [ofS, lpK, lv39, Tryz.f39] at e1
      simp [ofB, lpK, lv39, Tryz.f39] at e3
      simp (disch := (first | omega | simp (disch := omega) [])) [round_eq, ofS, Tryz.f39, lv39, hlt, hltI, e1, e2, e3, hfB, hfp, hsn, room_of, wrap_i64, -getElem?_pos]
  · have : i = ss.length := by omega
    subst this
    refine .inr ⟨(.exit 0, ofS h (I (ss.length : Nat)) (I (ss.length : Nat)) (Sl (pairsOf es)) .junk .junk .junk .junk none (Sl (listsOf (predsF ss))) .junk .junk ls), ?_, nofun, ls, j2, rfl⟩
    simp (disch := (first | omega | simp (disch := omega) [])) [round_eq, ofS, Tryz.f39, lv39, -getElem?_pos]
end
end Go.Proofs.YtdkknhpdjcdmfaaGreat.Abs

/- The loops of a function. -/
set_option linter.unusedSimpArgs false
set_option linter.unusedVariables false
namespace Go.Proofs.YtdkknhpdjcdmfaaGreat.Abs
open Go Go.RowKit Go.Proofs

theorem map_set_same {α β : Type} (f : α → β) {l : List α} {i : Nat} {x y : α} (hx : l[i]? = some x) (he : f y = f x) : (l.set i y).map f = l.map f := by
  apply List.ext_getElem?
  intro j
  rw [List.getElem?_map, List.getElem?_map, List.getElem?_set]
  by_cases e : i = j
  · subst e
    have hl := (List.getElem?_eq_some_iff.1 hx).1
    rw [if_pos rfl, if_pos hl, hx]
    simp [he]
  · rw [if_neg e]
theorem LsOK.set {ss : List (List Int)} {n : Nat} {ls : List Lp} (h : LsOK ss n ls) {i : Nat} {x : Lp} (hx : ls[i]? = some x) (u : Int) : LsOK ss n (ls.set i ⟨x.head, x.blocks, x.backs, u⟩) := by
  obtain ⟨⟨a1, a2, a3, a4⟩, b, c⟩ := h.each x (List.mem_of_getElem? hx)
  refine ⟨by simpa using h.len, fun y hy => ?_, ?_⟩
  · rcases List.mem_or_eq_of_mem_set hy with hy | rfl
    · exact h.each y hy
    · exact ⟨⟨a1, a2, a3, a4⟩, b, c⟩
  · have h1 := h.rise
    have h2 : (ls.map fun x => x.head).Pairwise fun a b => a < b := List.pairwise_map.2 h1
    rw [← map_set_same (fun x : Lp => x.head) (y := ⟨x.head, x.blocks, x.backs, u⟩) hx rfl] at h2
    exact List.pairwise_map.1 h2

theorem of_3 (h : Heap) {ss : List (List Int)} (n : Nat) (hn : n ≤ 1000) (ls : List Lp) (hl : LsOK ss n ls) :
    ∃ ls', LsOK ss n ls' ∧ lpK 39 Tryz.f39 92 3 h (ofS h .junk .junk .junk .junk .junk .junk .junk none .junk (I (0 : Nat)) (I (ls.length : Nat)) ls) =
      some (.exit 6, ofS h .junk .junk .junk .junk .junk .junk .junk none .junk (I (ls.length : Nat)) (I (ls.length : Nat)) ls') := by
  have key := loop_rel (P := Tryz.prog) (C := cfg) (sc := runScope Tryz.prog cfg 92 h.length (cfg.live 39) 0) (N := 92) (n0 := h.length) (K := cfg.live 39) (c := loopAt Tryz.f39 3)
    (fun s : Nat × List Lp => ofS h .junk .junk .junk .junk .junk .junk .junk none .junk (I (s.1 : Nat)) (I (ls.length : Nat)) s.2) (fun s => s.1 ≤ ls.length ∧ s.2.length = ls.length ∧ LsOK ss n s.2) (fun s => ls.length - s.1)
    (fun _ r => ∃ ls', LsOK ss n ls' ∧ r = (.exit 6, ofS h .junk .junk .junk .junk .junk .junk .junk none .junk (I (ls.length : Nat)) (I (ls.length : Nat)) ls')) ?_ (0, ls) ⟨Nat.zero_le _, rfl, hl⟩
  · obtain ⟨r, h1, ls', h2, rfl⟩ := key
    exact ⟨ls', h2, h1⟩
  have hlen := hl.len
  generalize ls.length = N at hlen ⊢
  clear hl ls
  rintro ⟨k, ls⟩ ⟨j1, j2, j3⟩
  simp only at j1 j2 j3 ⊢
  subst j2
  rcases Nat.lt_or_ge k ls.length with hlt | hge
  · have hltI : ((k : Nat) : Int) < ((ls.length : Nat) : Int) := by omega
    obtain ⟨x, hx⟩ : ∃ x, ls[k]? = some x := ⟨_, List.getElem?_eq_getElem hlt⟩
    obtain ⟨r, e⟩ := within [] ls (by omega) (fun x hx => by have := (j3.each x hx).2.1; omega) k hlt
    have hset : (lpsOf ls).set k [.int .i64 x.head, .isl (intsOf x.blocks), .isl (intsOf x.backs), .int .i64 r] = lpsOf (ls.set k ⟨x.head, x.blocks, x.backs, r⟩) := lpsOf_set ls k ⟨x.head, x.blocks, x.backs, r⟩
    refine .inl ⟨(k + 1, ls.set k ⟨x.head, x.blocks, x.backs, r⟩), ?_, ⟨hlt, by simp, j3.set hx r⟩, by simp only; omega, fun r h => h⟩
    simp (disch := (first | omega | simp (disch := omega) [])) [round_eq, ofS, encLp, Tryz.f39, lv39, hx, hlt, hltI, e, hset, wrap_i64, -getElem?_pos]
  · have : k = ls.length := by omega
    subst this
    refine .inr ⟨(.exit 6, ofS h .junk .junk .junk .junk .junk .junk .junk none .junk (I (ls.length : Nat)) (I (ls.length : Nat)) ls), ?_, nofun, ls, j3, rfl⟩
    simp (disch := (first | omega | simp (disch := omega) [])) [round_eq, ofS, Tryz.f39, lv39, -getElem?_pos]

/-- The loops of a function. -/
theorem loopsOf (h : Heap) (f : Fn) (hf : f.Fine) (hn : 0 < f.blocks.length) (hn2 : f.blocks.length ≤ 12) :
    ∃ ls, LsOK (f.blocks.map nextB) (f.blocks.map nextB).length ls ∧ CX 39 [.agg (encFn f)] h = some (Sl (lpsOf ls), h, []) := by
  have hsl : (f.blocks.map nextB).length = f.blocks.length := by simp
  have e1 := fun h => preds h f hf
  obtain ⟨up, es, e2, D, g1, g2⟩ := heads (h ++ [some (.row 5 [encFn f])]) f hf hn hn2
  rw [← hsl] at D
  obtain ⟨ls, l1, e3⟩ := of_0 hf.edges (by omega) (by omega) h D (es := es) (by omega) (fun e he => by rw [hsl]; exact g2 e he)
  obtain ⟨ls', l2, e4⟩ := of_3 h (f.blocks.map nextB).length (by omega) ls l1
  refine ⟨ls', l2, CI_of Tryz.func39 rfl 0 ?_⟩
  have hk : cfg.keep 39 = 0 := rfl
  simp [encFn] at e1 e2
  simp [ofS, lpK, lv39, Tryz.f39] at e3 e4
  simp (disch := (first | omega | simp (disch := omega) [])) [Tryz.f39, lv39, hk, encFn, e1, e2, e3, e4, -getElem?_pos]
end Go.Proofs.YtdkknhpdjcdmfaaGreat.Abs
