/- YtdkknhpdjcdmfaaGreatJT43: texts that follow each other, as one. -/
import Derived.Test.YtdkknhpdjcdmfaaGreatJT42
import Derived.Test.YtdkknhpdjcdmfaaGreatJT24
/- Loops as the machine holds them; the smallest other loop that holds a loop's head. -/
set_option linter.unusedSimpArgs false
set_option linter.unusedVariables false
namespace Go.Proofs.YtdkknhpdjcdmfaaGreat.Abs
open Go Go.RowKit Go.Proofs

def encLp (x : Lp) : List Leaf := [.int .i64 x.head, .isl (intsOf x.blocks), .isl (intsOf x.backs), .int .i64 x.up]
def lpsOf (ls : List Lp) : List (List Leaf) := ls.map encLp
@[simp] theorem lpsOf_length (ls : List Lp) : (lpsOf ls).length = ls.length := by simp [lpsOf]
@[simp] theorem lpsOf_nil : lpsOf [] = [] := rfl
@[simp] theorem lpsOf_get (ls : List Lp) (i : Nat) : (lpsOf ls)[i]? = (ls[i]?).map encLp := by simp [lpsOf]
@[simp] theorem lpsOf_plain (ls : List Lp) : plainR (lpsOf ls) = true := plainR_map (fun _ => rfl) ls
@[simp] theorem lpsOf_tree (ls : List Lp) : treeR (lpsOf ls) = true := treeR_map (fun _ => rfl) ls
@[simp] theorem lpsOf_sized (ls : List Lp) : sized 4 (lpsOf ls) = true := sized_map (n := 4) (f := encLp) (fun _ => rfl) ls
theorem lpsOf_snoc (ls : List Lp) (x : Lp) : lpsOf ls ++ [encLp x] = lpsOf (ls ++ [x]) := by simp [lpsOf]
theorem lpsOf_set (ls : List Lp) (i : Nat) (x : Lp) : (lpsOf ls).set i (encLp x) = lpsOf (ls.set i x) := by simp [lpsOf, List.map_set]

def wiS (h : Heap) (ls : List Lp) (i k : Nat) (best : Int) : St := ⟨[(0, Sl (lpsOf ls)), (10, I (k : Nat)), (9, I (ls.length : Nat)), (8, Sl (lpsOf ls)), (1, I (i : Nat)), (5, I best)], h, []⟩
theorem core_get {ls : List Lp} {k : Nat} {x : Lp} (h : ls[k]? = some x) : (coreOf ls)[k]? = some (x.head, x.blocks) := by
  unfold coreOf; rw [List.getElem?_map, h]; rfl
@[simp] theorem coreOf_length (ls : List Lp) : (coreOf ls).length = ls.length := by simp [coreOf]
theorem wi_loop (h : Heap) (ls : List Lp) (hl : ls.length ≤ 100000) (hb : ∀ x, x ∈ ls → x.blocks.length ≤ 100000) (i : Nat) (hi : i < ls.length) :
    lpK 89 Tryz.f89 58 0 h (wiS h ls i 0 (-1)) = some (.exit 0, wiS h ls i ls.length (wiN (coreOf ls) i ls.length)) := by
  have q := qt89
  simp [Tryz.f89, quietFn, quietRegs] at q
  have key := loop_fun (P := Tryz.prog) (C := cfg) (sc := runScope Tryz.prog cfg 58 h.length (cfg.live 89) 0) (N := 58) (n0 := h.length) (K := cfg.live 89) (c := loopAt Tryz.f89 0)
    (fun k : Nat => wiS h ls i k (wiN (coreOf ls) i k)) (fun k => k ≤ ls.length) (fun k => ls.length - k) (fun _ => (.exit 0, wiS h ls i ls.length (wiN (coreOf ls) i ls.length))) ?_ 0 (Nat.zero_le _)
  · exact key
  intro k j1
  have j2 := wiN_low (coreOf ls) i k (by simpa using j1)
  rw [coreOf_length] at j2
  obtain ⟨y, hy⟩ : ∃ y, ls[i]? = some y := ⟨_, List.getElem?_eq_getElem hi⟩
  have hcy := core_get hy
  rcases Nat.lt_or_ge k ls.length with hlt | hge
  · have hltI : ((k : Nat) : Int) < ((ls.length : Nat) : Int) := by omega
    obtain ⟨x, hx⟩ : ∃ x, ls[k]? = some x := ⟨_, List.getElem?_eq_getElem hlt⟩
    have hcx := core_get hx
    have hxb := hb x (List.mem_of_getElem? hx)
    have hyb := hb y (List.mem_of_getElem? hy)
    have hfit : Fit x.blocks := by show x.blocks.length ≤ _; omega
    refine .inl ⟨k + 1, ?_, hlt, by omega, rfl⟩
    have hst : wiN (coreOf ls) i (k + 1) = wiStep (coreOf ls) i (wiN (coreOf ls) i k) k := rfl
    rw [hst]
    generalize wiN (coreOf ls) i k = best at *
    clear hst
    unfold wiStep
    rw [hcy, hcx]
    simp only
    by_cases hki : k = i
    · rw [if_pos (.inl hki)]
      subst hki
      simp (disch := omega) [round_eq, wiS, encLp, Tryz.f89, lv89, q, hx, hlt, hltI, wrap_i64, -getElem?_pos]
    · have hkI : ¬ ((k : Nat) : Int) = ((i : Nat) : Int) := by omega
      have hkB : (((k : Nat) : Int) == ((i : Nat) : Int)) = false := by rw [beq_eq_false_iff_ne]; omega
      cases hc : x.blocks.contains y.head with
      | true =>
        by_cases hle : x.blocks.length ≤ y.blocks.length
        · rw [if_pos (.inr (.inr hle))]
          have hleI : ((x.blocks.length : Nat) : Int) ≤ ((y.blocks.length : Nat) : Int) := by omega
          simp (disch := omega) [round_eq, wiS, encLp, Tryz.f89, lv89, q, hx, hy, hi, hlt, hltI, hki, hkI, hkB, contains _ x.blocks hfit, hc, hle, hleI, wrap_i64, -getElem?_pos, -List.contains_eq_mem]
        · rw [if_neg (fun h' => by
            rcases h' with h' | h' | h'
            · exact hki h'
            · cases h'
            · exact hle h')]
          have hleI : ¬ ((x.blocks.length : Nat) : Int) ≤ ((y.blocks.length : Nat) : Int) := by omega
          by_cases hbn : best < 0
          · rw [if_pos hbn]
            simp (disch := omega) [round_eq, wiS, encLp, Tryz.f89, lv89, q, hx, hy, hi, hlt, hltI, hki, hkI, hkB, contains _ x.blocks hfit, hc, hle, hleI, hbn, wrap_i64, -getElem?_pos, -List.contains_eq_mem]
          · rw [if_neg hbn]
            have hb2 : best.toNat < ls.length := j2.resolve_left hbn
            have hb0 : 0 ≤ best := by omega
            obtain ⟨z, hz⟩ : ∃ z, ls[best.toNat]? = some z := ⟨_, List.getElem?_eq_getElem hb2⟩
            rw [core_get hz]
            simp only
            by_cases hlz : x.blocks.length < z.blocks.length
            · rw [if_pos hlz]
              have hlzI : ((x.blocks.length : Nat) : Int) < ((z.blocks.length : Nat) : Int) := by omega
              simp (disch := omega) [round_eq, wiS, encLp, Tryz.f89, lv89, q, hx, hy, hz, hi, hlt, hltI, hki, hkI, hkB, contains _ x.blocks hfit, hc, hle, hleI, hbn, hb0, hb2, hlz, hlzI, wrap_i64, -getElem?_pos, -List.contains_eq_mem]
            · rw [if_neg hlz]
              have hlzI : ¬ ((x.blocks.length : Nat) : Int) < ((z.blocks.length : Nat) : Int) := by omega
              simp (disch := omega) [round_eq, wiS, encLp, Tryz.f89, lv89, q, hx, hy, hz, hi, hlt, hltI, hki, hkI, hkB, contains _ x.blocks hfit, hc, hle, hleI, hbn, hb0, hb2, hlz, hlzI, wrap_i64, -getElem?_pos, -List.contains_eq_mem]
      | false =>
        rw [if_pos (.inr (.inl rfl))]
        simp (disch := omega) [round_eq, wiS, encLp, Tryz.f89, lv89, q, hx, hy, hi, hlt, hltI, hki, hkI, hkB, contains _ x.blocks hfit, hc, wrap_i64, -getElem?_pos, -List.contains_eq_mem]
  · have : k = ls.length := by omega
    subst this
    refine .inr ⟨?_, nofun⟩
    simp (disch := omega) [round_eq, wiS, encLp, Tryz.f89, lv89, q, -getElem?_pos]

theorem within (h : Heap) (ls : List Lp) (hl : ls.length ≤ 100000) (hb : ∀ x, x ∈ ls → x.blocks.length ≤ 100000) (i : Nat) (hi : i < ls.length) :
    CX 89 [Sl (lpsOf ls), I (i : Nat)] h = some (I (wiN (coreOf ls) i ls.length), h, []) := by
  have e := wi_loop h ls hl hb i hi
  refine CI_of Tryz.func89 rfl 0 ?_
  have hk : cfg.keep 89 = 0 := rfl
  simp [wiS, lpK, lv89, Tryz.f89] at e
  simp (disch := omega) [Tryz.f89, lv89, hk, e, -getElem?_pos]
end Go.Proofs.YtdkknhpdjcdmfaaGreat.Abs

/- To which blocks each one goes, as the document tells it. -/
set_option linter.unusedSimpArgs false
set_option linter.unusedVariables false
namespace Go.Proofs.YtdkknhpdjcdmfaaGreat.Abs
open Go Go.RowKit Go.Proofs

def nxS (h : Heap) (xs : List Int) (i : Nat) (out : List Int) : St := ⟨[(7, I (i : Nat)), (6, Sl (intsOf xs)), (5, .one (.sl h.length 1 out.length 0 out.length))], h ++ [some (.row 1 (intsOf out))], []⟩
theorem nx_loop (h : Heap) (xs : List Int) (hx : Fit xs) :
    lpK 49 Tryz.f49 44 0 h (nxS h xs 0 []) = some (.exit 0, nxS h xs xs.length (xs.foldl addU [])) := by
  refine loop_list (P := Tryz.prog) (C := cfg) (sc := runScope Tryz.prog cfg 44 h.length (cfg.live 49) 0) (N := 44) (n0 := h.length) (K := cfg.live 49) (c := loopAt Tryz.f49 0) xs addU
    (fun i out => nxS h xs i out) (fun out => (.exit 0, nxS h xs xs.length out)) (fun i out => out.length ≤ i) ?_ ?_ [] (by simp)
  · intro i out x hd hl
    have hi := (List.getElem?_eq_some_iff.1 hd).1
    have hiI : ((i : Nat) : Int) < ((xs.length : Nat) : Int) := by omega
    have hxf : xs.length ≤ 17592186044416 := hx
    have hfa : Fit out := by show out.length ≤ 17592186044416; omega
    refine ⟨?_, by have := addU_len out x; omega⟩
    by_cases hc : out.contains x = true
    · have ha : addU out x = out := by rw [addU, if_pos hc]
      rw [ha]
      simp (disch := omega) [round_eq, nxS, Tryz.f49, lv49, hd, hi, hiI, wrap_i64, has _ out hfa, hc, -getElem?_pos, -List.contains_eq_mem]
    · have hc' : out.contains x = false := by simpa using hc
      have ha : addU out x = out ++ [x] := by rw [addU, if_neg hc]
      rw [ha]
      simp (disch := omega) [round_eq, nxS, Tryz.f49, lv49, hd, hi, hiI, wrap_i64, has _ out hfa, hc', room_of, intsOf_snoc, -getElem?_pos, -List.contains_eq_mem]
  · intro out hl
    refine ⟨?_, nofun⟩
    simp (disch := omega) [round_eq, nxS, Tryz.f49, lv49, -getElem?_pos]

theorem next (h : Heap) (f : Fn) (hf : f.Ok) (he : Ended f) (k : Nat) (l : List Ins) (hl : f.blocks[k]? = some l) : CX 49 [.agg (encFn f), I (k : Nat)] h = some (Sl (intsOf (nextB l)), h, []) := by
  have q := qt49
  simp [Tryz.f49, quietFn, quietRegs] at q
  have hm := List.mem_of_getElem? hl
  have hne := he l hm
  have hlp : 0 < l.length := List.length_pos_iff.2 hne
  have hlf := hf.code l hm
  have hkl := (List.getElem?_eq_some_iff.1 hl).1
  have hb := hf.blocks
  obtain ⟨x, hx⟩ : ∃ x, l[l.length - 1]? = some x := ⟨_, List.getElem?_eq_getElem (by omega)⟩
  have hto : toB l = x.to := by unfold toB; rw [hx]
  have e := nx_loop (h ++ []) (toB l) (toB_ok hf hm)
  rw [List.append_nil, hto] at e
  have hnb : nextB l = x.to.foldl addU [] := by unfold nextB; rw [hto]
  rw [hnb]
  have hc : ((l.length : Int) - 1) = ((l.length - 1 : Nat) : Int) := by omega
  have hlt1 : l.length - 1 < l.length := by omega
  refine CI_of Tryz.func49 rfl 0 ?_
  have hk : cfg.keep 49 = 0 := rfl
  simp [nxS, lpK, lv49, Tryz.f49] at e
  simp (disch := omega) [Tryz.f49, lv49, hk, q, encFn, encIns, hl, hkl, hx, hc, hlt1, wrap_i64, e, -getElem?_pos]

def suO8 (h : Heap) (f : Fn) (k : Nat) (done : List (List Int)) : St := ⟨[(4, I (k : Nat)), (1, .one (.ptr h.length 1 0 0)), (3, .one (.sl (h.length + 1) 1 done.length 0 done.length))], h ++ [some (.row 5 [encFn f]), some (.row 1 (listsOf done))], []⟩
theorem listsOf_snoc' (ls : List (List Int)) (l : List Int) : listsOf ls ++ [[.isl (intsOf l)]] = listsOf (ls ++ [l]) := by simp [listsOf]
theorem su8_loop (h : Heap) (f : Fn) (hf : f.Ok) (he : Ended f) (hn : f.blocks.length ≤ 1000) :
    lpK 68 Tryz.f68 19 0 h (suO8 h f 0 []) = some (.exit 0, suO8 h f f.blocks.length (f.blocks.map nextB)) := by
  have key := loop_list (P := Tryz.prog) (C := cfg) (sc := runScope Tryz.prog cfg 19 h.length (cfg.live 68) 0) (N := 19) (n0 := h.length) (K := cfg.live 68) (c := loopAt Tryz.f68 0) f.blocks (fun done l => done ++ [nextB l])
    (fun i done => suO8 h f i done) (fun done => (.exit 0, suO8 h f f.blocks.length done)) (fun i done => done.length = i) ?_ ?_ [] rfl
  · have hfold : ∀ (ls : List (List Ins)) (d : List (List Int)), ls.foldl (fun done l => done ++ [nextB l]) d = d ++ ls.map nextB := by
      intro ls
      induction ls with
      | nil => intro d; simp
      | cons l ls ih => intro d; rw [List.foldl_cons, ih]; simp
    rw [hfold, List.nil_append] at key
    exact key
  · intro i done l hl hd
    subst hd
    have hi := (List.getElem?_eq_some_iff.1 hl).1
    have hiI : ((done.length : Nat) : Int) < ((f.blocks.length : Nat) : Int) := by omega
    refine ⟨?_, by simp⟩
    have e := next (h ++ [some (.row 5 [encFn f]), some (.row 1 (listsOf done))]) f hf he done.length l hl
    simp [encFn] at e
    simp (disch := omega) [round_eq, suO8, encFn, Tryz.f68, lv68, hi, hiI, e, wrap_i64, room_of, listsOf_snoc', -getElem?_pos]
  · intro done hd
    refine ⟨?_, nofun⟩
    simp (disch := omega) [round_eq, suO8, encFn, Tryz.f68, lv68, -getElem?_pos]
theorem succs8 (h : Heap) (f : Fn) (hf : f.Ok) (he : Ended f) (hn : f.blocks.length ≤ 1000) : CX 68 [.agg (encFn f)] h = some (Sl (listsOf (f.blocks.map nextB)), h, []) := by
  have e := su8_loop h f hf he hn
  refine CI_of Tryz.func68 rfl 0 ?_
  have hk : cfg.keep 68 = 0 := rfl
  simp [suO8, lpK, encFn, lv68, Tryz.f68] at e
  simp (disch := omega) [Tryz.f68, lv68, hk, encFn, e, -getElem?_pos]
end Go.Proofs.YtdkknhpdjcdmfaaGreat.Abs

/- Which blocks are reached from the first one, not by way of one, as the document tells it. -/
set_option linter.unusedSimpArgs false
set_option linter.unusedVariables false
namespace Go.Proofs.YtdkknhpdjcdmfaaGreat.Abs
open Go Go.RowKit Go.Proofs

def metOf (n : Nat) (l : List Int) : List Bool := (List.range n).map fun v => l.contains ((v : Nat) : Int)
@[simp] theorem metOf_length (n : Nat) (l : List Int) : (metOf n l).length = n := by simp [metOf]
theorem metOf_mt {n : Nat} {l : List Int} {v : Nat} : Mt (metOf n l) v ↔ v < n ∧ (v : Int) ∈ l := by
  unfold Mt metOf
  rw [List.getElem?_map]
  rcases Nat.lt_or_ge v n with h | h
  · rw [List.getElem?_range h]; simp [h]
  · rw [List.getElem?_eq_none (by simpa using h)]; simp; omega
theorem metOf_snoc {n : Nat} {l : List Int} {b : Int} (hb : 0 ≤ b) : metOf n (l ++ [b]) = (metOf n l).set b.toNat true := by
  apply List.ext_getElem?
  intro v
  rw [List.getElem?_set]
  unfold metOf
  simp only [List.getElem?_map, List.length_map, List.length_range]
  rcases Nat.lt_or_ge v n with h | h
  · rw [List.getElem?_range h]
    by_cases e : b.toNat = v
    · rw [if_pos e, if_pos (by omega)]
      simp; right; omega
    · rw [if_neg e]
      simp
      intro hv; omega
  · rw [List.getElem?_eq_none (by simpa using h)]
    split
    · rw [if_neg (by omega)]; rfl
    · rfl
theorem metOf_next (l : List Int) (k : Nat) : metOf k l ++ [l.contains ((k : Nat) : Int)] = metOf (k + 1) l := by
  simp [metOf, List.range_succ]

def blV (id : Nat) : Option (List Bool) → V
  | none => .junk
  | some l => .one (.sl id 1 l.length 0 l.length)
def blO : Option (List Bool) → Option AO
  | none => none
  | some l => some (.row 1 (boolsOf l))
@[simp] theorem blV_none (id : Nat) : blV id none = .junk := rfl
@[simp] theorem blV_some (id : Nat) (l : List Bool) : blV id (some l) = .one (.sl id 1 l.length 0 l.length) := rfl
@[simp] theorem blO_none : blO none = none := rfl
@[simp] theorem blO_some (l : List Bool) : blO (some l) = some (.row 1 (boolsOf l)) := rfl
@[simp] theorem boolsOf_nil : boolsOf [] = [] := rfl
theorem boolsOf_snoc (bs : List Bool) (b : Bool) : boolsOf bs ++ [[.bool b]] = boolsOf (bs ++ [b]) := by simp [boolsOf]

def m9S (h : Heap) (f : Fn) (ss : List (List Int)) (but : Int) (l : List Int) (v8 v9 v1 v12 : V) (o11 : Option (List Bool)) : St :=
  ⟨[(2, I but), (7, .one (.sl h.length 1 l.length 0 l.length)), (8, v8), (9, v9), (1, v1), (12, v12), (3, .one (.ptr (h.length + 1) 1 0 0)), (11, blV (h.length + 2) o11), (1009, .junk), (1008, .junk)],
   h ++ [some (.row 1 (intsOf l)), some (.row 5 [encFn f]), blO o11], []⟩

section
variable (h : Heap) (f : Fn) (ss : List (List Int)) (but : Int) (hE : ss.length ≤ 1000) (hEl : ∀ l, l ∈ ss → l.length ≤ 100000 ∧ ∀ x, x ∈ l → 0 ≤ x ∧ x < ss.length)
include hE hEl

theorem m9_in (i : Nat) (es : List Int) (k : Nat) (hk : ss[k]? = some es) (hRk : Rch ss [0] but k) (l : List Int) (hlk : l[i]? = some (k : Int))
    (g1 : RI ss.length ss [0] but (metOf ss.length l) (fun v => v = k ∨ (v : Int) ∈ l.drop (i + 1))) (g3 : OpOK ss [0] but l) (g4 : l.length + unmet (metOf ss.length l) ≤ ss.length) :
    ∃ l', i < l'.length ∧ RI ss.length ss [0] but (metOf ss.length l') (fun v => (v : Int) ∈ l'.drop (i + 1)) ∧ OpOK ss [0] but l' ∧ l'.length + unmet (metOf ss.length l') ≤ ss.length ∧ (∀ x, x ∈ l → x ∈ l') ∧
    lpK 69 Tryz.f69 73 1 h (m9S h f ss but l (I (i : Nat)) (I (0 : Nat)) (Sl (listsOf ss)) .junk none) = some (.exit 2, m9S h f ss but l' (I (i : Nat)) (I (es.length : Nat)) (Sl (listsOf ss)) .junk none) := by
  obtain ⟨hes, heb⟩ := hEl es (List.mem_of_getElem? hk)
  have hgd : ss.getD k [] = es := by rw [List.getD, hk]; rfl
  have hkl := (List.getElem?_eq_some_iff.1 hk).1
  have key := loop_rel (P := Tryz.prog) (C := cfg) (sc := runScope Tryz.prog cfg 73 h.length (cfg.live 69) 0) (N := 73) (n0 := h.length) (K := cfg.live 69) (c := loopAt Tryz.f69 1)
    (fun s : Nat × List Int => m9S h f ss but s.2 (I (i : Nat)) (I (s.1 : Nat)) (Sl (listsOf ss)) .junk none)
    (fun s => s.1 ≤ es.length ∧ s.2[i]? = some (k : Int) ∧ RI ss.length ss [0] but (metOf ss.length s.2) (fun v => v = k ∨ (v : Int) ∈ s.2.drop (i + 1)) ∧ OpOK ss [0] but s.2 ∧ s.2.length + unmet (metOf ss.length s.2) ≤ ss.length ∧ (∀ (t : Nat) w, es[t]? = some w → t < s.1 → w ≠ but → Mt (metOf ss.length s.2) w.toNat) ∧ ∀ x, x ∈ l → x ∈ s.2) (fun s => es.length - s.1)
    (fun s r => ∃ l', i < l'.length ∧ RI ss.length ss [0] but (metOf ss.length l') (fun v => (v : Int) ∈ l'.drop (i + 1)) ∧ OpOK ss [0] but l' ∧ l'.length + unmet (metOf ss.length l') ≤ ss.length ∧ (∀ x, x ∈ l → x ∈ l') ∧
      r = (.exit 2, m9S h f ss but l' (I (i : Nat)) (I (es.length : Nat)) (Sl (listsOf ss)) .junk none)) ?_ (0, l) ⟨Nat.zero_le _, hlk, g1, g3, g4, fun t w _ ht => by simp only at ht; omega, fun x hx => hx⟩
  · obtain ⟨r, h1, l', h2, h3, h4, h5, h6, rfl⟩ := key
    exact ⟨l', h2, h3, h4, h5, h6, h1⟩
  clear g1 g3 g4
  rintro ⟨p, m⟩ ⟨j1, j2, j3, j4, j5, j6, j7⟩
  simp only at j1 j2 j3 j4 j5 j6 j7 ⊢
  have hil := (List.getElem?_eq_some_iff.1 j2).1
  have hmf : Fit m := by show m.length ≤ _; omega
  rcases Nat.lt_or_ge p es.length with hlt | hge
  · have hltI : ((p : Nat) : Int) < ((es.length : Nat) : Int) := by omega
    obtain ⟨x, hx⟩ : ∃ x, es[p]? = some x := ⟨_, List.getElem?_eq_getElem hlt⟩
    have hxm := List.mem_of_getElem? hx
    obtain ⟨x0, xl⟩ := heb x hxm
    have xln : x.toNat < ss.length := by omega
    by_cases hb : x = but
    · have hbI : (x != but) = false := by simp [hb]
      refine .inl ⟨(p + 1, m), ?_, ⟨hlt, j2, j3, j4, j5, fun t w hw ht hn => ?_, j7⟩, by simp only; omega, fun r h => h⟩
      · simp (disch := omega) [round_eq, m9S, encFn, Tryz.f69, lv69, j2, hil, hk, hkl, hx, hlt, hltI, hbI, hb, wrap_i64, -getElem?_pos]
      · rcases Nat.lt_or_ge t p with hji | hji
        · exact j6 t w hw hji hn
        · have : t = p := by simp only at ht; omega
          subst this
          rw [hx] at hw; cases hw
          exact absurd hb hn
    · have hbI : (x != but) = true := by simp [hb]
      by_cases hc : m.contains x = true
      · refine .inl ⟨(p + 1, m), ?_, ⟨hlt, j2, j3, j4, j5, fun t w hw ht hn => ?_, j7⟩, by simp only; omega, fun r h => h⟩
        · simp (disch := omega) [round_eq, m9S, encFn, Tryz.f69, lv69, j2, hil, hk, hkl, hx, hlt, hltI, hbI, has _ m hmf, hc, wrap_i64, -getElem?_pos, -List.contains_eq_mem]
        · rcases Nat.lt_or_ge t p with hji | hji
          · exact j6 t w hw hji hn
          · have : t = p := by simp only at ht; omega
            subst this
            rw [hx] at hw; cases hw
            refine metOf_mt.2 ⟨xln, ?_⟩
            rw [Int.toNat_of_nonneg x0]
            simpa using hc
      · have hc' : m.contains x = false := by simpa using hc
        have hxn : x ∉ m := by simpa using hc
        have hnm : ¬ Mt (metOf ss.length m) x.toNat := fun h' => by
          have := (metOf_mt.1 h').2
          rw [Int.toNat_of_nonneg x0] at this
          exact hxn this
        have hun := unmet_set' (met := metOf ss.length m) (by simpa using xln) hnm
        have hrx : Rch ss [0] but x.toNat := .step hRk (by rw [Int.toNat_of_nonneg x0, hgd]; exact hxm) (by rw [Int.toNat_of_nonneg x0]; exact hb)
        have hset := j3.set xln hrx
        rw [← metOf_snoc x0] at hset hun
        have hmt : ∀ v, Mt (metOf ss.length m) v → Mt (metOf ss.length (m ++ [x])) v := fun v hv => by
          rw [metOf_mt] at hv ⊢; exact ⟨hv.1, by simp [hv.2]⟩
        have hdrop : (m ++ [x]).drop (i + 1) = m.drop (i + 1) ++ [x] := List.drop_append_of_le_length (by omega)
        refine .inl ⟨(p + 1, m ++ [x]), ?_, ⟨hlt, ?_, hset.mono fun v hv => .inl ?_, fun z hz => ?_, ?_, fun t w hw ht hn => ?_, fun z hz => by simp [j7 z hz]⟩, by simp only; omega, fun r h => h⟩
        · simp (disch := omega) [round_eq, m9S, encFn, Tryz.f69, lv69, j2, hil, hk, hkl, hx, hlt, hltI, hbI, has _ m hmf, hc', room_of, intsOf_snoc, wrap_i64, -getElem?_pos, -List.contains_eq_mem]
        · simp only; rw [List.getElem?_append_left hil]; exact j2
        · rcases hv with (hv | hv) | rfl
          · exact .inl hv
          · exact .inr (by rw [hdrop]; simp [hv])
          · exact .inr (by rw [hdrop]; simp; right; omega)
        · rcases List.mem_append.1 hz with hz | hz
          · exact j4 z hz
          · rw [List.mem_singleton.1 hz]; exact ⟨x0, xl, hrx⟩
        · simp only [List.length_append, List.length_cons, List.length_nil]; omega
        · rcases Nat.lt_or_ge t p with hji | hji
          · exact hmt _ (j6 t w hw hji hn)
          · have : t = p := by simp only at ht; omega
            subst this
            rw [hx] at hw; cases hw
            refine metOf_mt.2 ⟨xln, ?_⟩
            rw [Int.toNat_of_nonneg x0]
            simp
  · have : p = es.length := by omega
    subst this
    refine .inr ⟨(.exit 2, m9S h f ss but m (I (i : Nat)) (I (es.length : Nat)) (Sl (listsOf ss)) .junk none), ?_, nofun, m, hil, j3.mono fun v hv => ?_, j4, j5, j7, rfl⟩
    · simp (disch := omega) [round_eq, m9S, encFn, Tryz.f69, lv69, j2, hil, hk, hkl, -getElem?_pos]
    · rcases hv with hv | hv
      · subst hv
        refine .inr fun w hw hn => ?_
        rw [hgd] at hw
        obtain ⟨t, ht⟩ := List.getElem?_of_mem hw
        exact j6 t w ht (List.getElem?_eq_some_iff.1 ht).1 hn
      · exact .inl hv

theorem m9_out (l : List Int) (g1 : RI ss.length ss [0] but (metOf ss.length l) (fun v => (v : Int) ∈ l)) (g2 : ∀ x, x ∈ [(0 : Int)] → x ≠ but → x ∈ l) (g3 : OpOK ss [0] but l) (g4 : l.length + unmet (metOf ss.length l) ≤ ss.length) :
    ∃ l', (∀ v, Mt (metOf ss.length l') v ↔ Rch ss [0] but v) ∧ l'.length ≤ ss.length ∧
    lpK 69 Tryz.f69 73 0 h (m9S h f ss but l (I (0 : Nat)) .junk (Sl (listsOf ss)) .junk none) = some (.exit 0, m9S h f ss but l' (I (l'.length : Nat)) .junk (Sl (listsOf ss)) .junk none) := by
  have key := loop_rel (P := Tryz.prog) (C := cfg) (sc := runScope Tryz.prog cfg 73 h.length (cfg.live 69) 0) (N := 73) (n0 := h.length) (K := cfg.live 69) (c := loopAt Tryz.f69 0)
    (fun s : Nat × List Int => m9S h f ss but s.2 (I (s.1 : Nat)) .junk (Sl (listsOf ss)) .junk none)
    (fun s => s.1 ≤ s.2.length ∧ RI ss.length ss [0] but (metOf ss.length s.2) (fun v => (v : Int) ∈ s.2.drop s.1) ∧ (∀ x, x ∈ [(0 : Int)] → x ≠ but → x ∈ s.2) ∧ OpOK ss [0] but s.2 ∧ s.2.length + unmet (metOf ss.length s.2) ≤ ss.length) (fun s => ss.length - s.1)
    (fun s r => ∃ l', (∀ v, Mt (metOf ss.length l') v ↔ Rch ss [0] but v) ∧ l'.length ≤ ss.length ∧ r = (.exit 0, m9S h f ss but l' (I (l'.length : Nat)) .junk (Sl (listsOf ss)) .junk none)) ?_ (0, l) ⟨Nat.zero_le _, g1, g2, g3, g4⟩
  · obtain ⟨r, h1, l', h2, h3, rfl⟩ := key
    exact ⟨l', h2, h3, h1⟩
  clear g1 g2 g3 g4 l
  rintro ⟨i, l⟩ ⟨j1, j2, j3, j4, j5⟩
  simp only at j1 j2 j3 j4 j5 ⊢
  rcases Nat.lt_or_ge i l.length with hlt | hge
  · have hltI : ((i : Nat) : Int) < ((l.length : Nat) : Int) := by omega
    obtain ⟨x, hx⟩ : ∃ x, l[i]? = some x := ⟨_, List.getElem?_eq_getElem hlt⟩
    obtain ⟨x0, xl, hrx⟩ := j4 x (List.mem_of_getElem? hx)
    obtain ⟨k, rfl⟩ : ∃ k : Nat, x = (k : Int) := ⟨x.toNat, by omega⟩
    rw [Int.toNat_natCast] at hrx
    have hkl : k < ss.length := by omega
    obtain ⟨es, hes⟩ : ∃ es, ss[k]? = some es := ⟨_, List.getElem?_eq_getElem hkl⟩
    have hesl := (hEl es (List.mem_of_getElem? hes)).1
    have hdr : l.drop i = (k : Int) :: l.drop (i + 1) := by
      rw [List.drop_eq_getElem_cons hlt]; rw [List.getElem?_eq_getElem hlt] at hx; injection hx with hx; rw [hx]
    obtain ⟨l', k1, k2, k3, k4, k5, e⟩ := m9_in h f ss but hE hEl i es k hes hrx l hx (j2.mono fun v hv => .inl (by
      rw [hdr] at hv
      rcases List.mem_cons.1 hv with hv | hv
      · exact .inl (by omega)
      · exact .inr hv)) j4 j5
    refine .inl ⟨(i + 1, l'), ?_, ⟨k1, k2, fun x hx hn => k5 x (j3 x hx hn), k3, k4⟩, by simp only; omega, fun r h => h⟩
    simp [m9S, encFn, lpK, lv69, Tryz.f69] at e
    simp (disch := omega) [round_eq, m9S, encFn, Tryz.f69, lv69, hx, hlt, hltI, e, wrap_i64, -getElem?_pos]
  · have : i = l.length := by omega
    subst this
    refine .inr ⟨(.exit 0, m9S h f ss but l (I (l.length : Nat)) .junk (Sl (listsOf ss)) .junk none), ?_, nofun, l, RI.all (j2.mono fun v hv => by simp at hv) (fun x hx hn => ?_), by omega, rfl⟩
    · simp (disch := omega) [round_eq, m9S, encFn, Tryz.f69, lv69, -getElem?_pos]
    · have h0 : x = 0 := by simpa using hx
      subst h0
      have := j3 0 hx hn
      have hb := j4 0 this
      exact metOf_mt.2 ⟨by omega, this⟩
end

theorem m9_last (h : Heap) (f : Fn) (hn : f.blocks.length ≤ 1000) (ss : List (List Int)) (but : Int) (l : List Int) (hl : l.length ≤ 1000) :
    lpK 69 Tryz.f69 73 2 h (m9S h f ss but l .junk .junk (Sl (listsOf ss)) (I (0 : Nat)) (some [])) = some (.exit 4, m9S h f ss but l .junk .junk (Sl (listsOf ss)) (I (f.blocks.length : Nat)) (some (metOf f.blocks.length l))) := by
  have hlf : Fit l := by show l.length ≤ _; omega
  have key := loop_fun (P := Tryz.prog) (C := cfg) (sc := runScope Tryz.prog cfg 73 h.length (cfg.live 69) 0) (N := 73) (n0 := h.length) (K := cfg.live 69) (c := loopAt Tryz.f69 2)
    (fun k : Nat => m9S h f ss but l .junk .junk (Sl (listsOf ss)) (I (k : Nat)) (some (metOf k l))) (fun k => k ≤ f.blocks.length) (fun k => f.blocks.length - k)
    (fun _ => (.exit 4, m9S h f ss but l .junk .junk (Sl (listsOf ss)) (I (f.blocks.length : Nat)) (some (metOf f.blocks.length l)))) ?_ 0 (Nat.zero_le _)
  · exact key
  intro k hk
  rcases Nat.lt_or_ge k f.blocks.length with hlt | hge
  · have hltI : ((k : Nat) : Int) < ((f.blocks.length : Nat) : Int) := by omega
    refine .inl ⟨k + 1, ?_, hlt, by omega, rfl⟩
    simp (disch := omega) [round_eq, m9S, encFn, Tryz.f69, lv69, hlt, hltI, has _ l hlf, room_of, boolsOf_snoc, metOf_next, wrap_i64, -getElem?_pos, -List.contains_eq_mem]
  · have : k = f.blocks.length := by omega
    subst this
    refine .inr ⟨?_, nofun⟩
    simp (disch := omega) [round_eq, m9S, encFn, Tryz.f69, lv69, -getElem?_pos]

theorem met9 (h : Heap) (f : Fn) (ss : List (List Int)) (hs : ss.length = f.blocks.length) (h0 : 0 < ss.length) (but : Int) (hE : ss.length ≤ 1000) (hEl : ∀ l, l ∈ ss → l.length ≤ 100000 ∧ ∀ x, x ∈ l → 0 ≤ x ∧ x < ss.length) :
    ∃ m : List Bool, m.length = ss.length ∧ (∀ v, Mt m v ↔ Rch ss [0] but v) ∧ CX 69 [.agg (encFn f), Sl (listsOf ss), I but] h = some (Sl (boolsOf m), h, []) := by
  have hk : cfg.keep 69 = 0 := rfl
  by_cases hb : but = 0
  · obtain ⟨l', g1, g2, e1⟩ := m9_out h f ss but hE hEl [] ⟨by simp, fun v hv => by have := (metOf_mt.1 hv).2; simp at this, fun v hv => by have := (metOf_mt.1 hv).2; simp at this⟩ (fun x hx hn => by simp at hx; omega) (fun x hx => by simp at hx) (by
      have : unmet (metOf ss.length []) = ss.length := by
        have : metOf ss.length [] = List.replicate ss.length false := by
          apply List.ext_getElem?; intro i; simp [metOf]; simp [List.getElem?_replicate]; rcases Nat.lt_or_ge i ss.length with h | h <;> simp [h, Nat.not_lt.2]
        rw [this, unmet_all]
      simp; omega)
    have e2 := m9_last h f (by omega) ss but l' (by omega)
    refine ⟨metOf ss.length l', by simp, g1, CI_of Tryz.func69 rfl 0 ?_⟩
    subst hb
    rw [hs]
    simp [m9S, encFn, lpK, lv69, Tryz.f69] at e1 e2
    simp (disch := omega) [Tryz.f69, lv69, hk, encFn, e1, e2, wrap_i64, -getElem?_pos]
  · have hbI : (but != 0) = true := by simp [hb]
    have hr0 : Rch ss [0] but 0 := .start (by simp) (by omega)
    have hm0 : ∀ v : Nat, Mt (metOf ss.length [0]) v → v = 0 := fun v hv => by have := (metOf_mt.1 hv).2; simp at this; omega
    obtain ⟨l', g1, g2, e1⟩ := m9_out h f ss but hE hEl [0] ⟨by simp, fun v hv => by rw [hm0 v hv]; exact hr0, fun v hv => .inl (by rw [hm0 v hv]; simp)⟩ (fun x hx hn => hx) (fun x hx => by
        have : x = 0 := by simpa using hx
        subst this
        exact ⟨by omega, by omega, hr0⟩) (by
      have h1 : metOf ss.length [] = List.replicate ss.length false := by
        apply List.ext_getElem?; intro i; simp [metOf]; simp [List.getElem?_replicate]; rcases Nat.lt_or_ge i ss.length with h | h <;> simp [h, Nat.not_lt.2]
      have h2 := metOf_snoc (n := ss.length) (l := []) (b := 0) (by omega)
      have h3 := unmet_set (met := metOf ss.length []) (v := 0) (by rw [h1, List.getElem?_replicate, if_pos h0])
      rw [List.nil_append] at h2
      have h2' : metOf ss.length [0] = (metOf ss.length []).set 0 true := h2
      rw [← h2', h1, unmet_all] at h3
      simp only [List.length_cons, List.length_nil]
      omega)
    have e2 := m9_last h f (by omega) ss but l' (by omega)
    refine ⟨metOf ss.length l', by simp, g1, CI_of Tryz.func69 rfl 0 ?_⟩
    rw [hs]
    have hz : intsOf [0] = ([[Leaf.int .i64 0]] : List (List Leaf)) := rfl
    simp [m9S, encFn, lpK, lv69, Tryz.f69, hz] at e1 e2
    simp (disch := omega) [Tryz.f69, lv69, hk, encFn, hb, hbI, e1, e2, wrap_i64, room_of, -getElem?_pos]
end Go.Proofs.YtdkknhpdjcdmfaaGreat.Abs

/- Which blocks stand ahead of which, as the document tells it. -/
set_option linter.unusedSimpArgs false
set_option linter.unusedVariables false
namespace Go.Proofs.YtdkknhpdjcdmfaaGreat.Abs
open Go Go.RowKit Go.Proofs

def tabOf (rows : List (List Bool)) : List (List Leaf) := rows.map fun r => [.isl (boolsOf r)]
@[simp] theorem tabOf_length (rows : List (List Bool)) : (tabOf rows).length = rows.length := by simp [tabOf]
@[simp] theorem tabOf_nil : tabOf [] = [] := rfl
@[simp] theorem tabOf_get (rows : List (List Bool)) (i : Nat) : (tabOf rows)[i]? = (rows[i]?).map fun r => [.isl (boolsOf r)] := by simp [tabOf]
@[simp] theorem tabOf_plain (rows : List (List Bool)) : plainR (tabOf rows) = true := plainR_map (fun _ => rfl) rows
@[simp] theorem tabOf_tree (rows : List (List Bool)) : treeR (tabOf rows) = true := treeR_map (fun _ => rfl) rows
@[simp] theorem tabOf_sized (rows : List (List Bool)) : sized 1 (tabOf rows) = true := sized_map (n := 1) (f := fun r : List Bool => [Leaf.isl (boolsOf r)]) (fun _ => rfl) rows
theorem tabOf_snoc (rows : List (List Bool)) (r : List Bool) : tabOf rows ++ [[.isl (boolsOf r)]] = tabOf (rows ++ [r]) := by simp [tabOf]

def cellT (all wo : List Bool) (a b : Nat) : Bool := all.getD a false && (all.getD b false && (decide (a = b) || !(wo.getD b false)))
def rowT (all wo : List Bool) (a k : Nat) : List Bool := (List.range k).map (cellT all wo a)
@[simp] theorem rowT_length (all wo : List Bool) (a k : Nat) : (rowT all wo a k).length = k := by simp [rowT]
theorem rowT_next (all wo : List Bool) (a k : Nat) : rowT all wo a (k + 1) = rowT all wo a k ++ [cellT all wo a k] := by simp [rowT, List.range_succ]

def tbS (h : Heap) (f : Fn) (ss : List (List Int)) (all : List Bool) (a : Nat) (v9 : V) (o8 : Option (List Bool)) (v7 : V) (rows : List (List Bool)) : St :=
  ⟨[(1, .one (.ptr h.length 1 0 0)), (3, Sl (listsOf ss)), (6, I (a : Nat)), (9, v9), (8, blV (h.length + 1) o8), (4, Sl (boolsOf all)), (7, v7), (5, .one (.sl (h.length + 2) 1 rows.length 0 rows.length)), (1008, .junk), (1009, .junk), (1007, .junk)],
   h ++ [some (.row 5 [encFn f]), blO o8, some (.row 1 (tabOf rows))], []⟩

theorem tb_in (h : Heap) (f : Fn) (hn : f.blocks.length ≤ 1000) (ss : List (List Int)) (all wo : List Bool) (hal : all.length = f.blocks.length) (hwl : wo.length = f.blocks.length) (a : Nat) (ha : a < f.blocks.length) (rows : List (List Bool)) (hr : rows.length ≤ 1000) :
    lpK 23 Tryz.f23 63 1 h (tbS h f ss all a (I (0 : Nat)) (some []) (Sl (boolsOf wo)) rows) = some (.exit 2, tbS h f ss all a (I (f.blocks.length : Nat)) (some (rowT all wo a f.blocks.length)) (Sl (boolsOf wo)) rows) := by
  have key := loop_fun (P := Tryz.prog) (C := cfg) (sc := runScope Tryz.prog cfg 63 h.length (cfg.live 23) 0) (N := 63) (n0 := h.length) (K := cfg.live 23) (c := loopAt Tryz.f23 1)
    (fun k : Nat => tbS h f ss all a (I (k : Nat)) (some (rowT all wo a k)) (Sl (boolsOf wo)) rows) (fun k => k ≤ f.blocks.length) (fun k => f.blocks.length - k)
    (fun _ => (.exit 2, tbS h f ss all a (I (f.blocks.length : Nat)) (some (rowT all wo a f.blocks.length)) (Sl (boolsOf wo)) rows)) ?_ 0 (Nat.zero_le _)
  · exact key
  intro k hk
  obtain ⟨xa, hxa⟩ : ∃ x, all[a]? = some x := ⟨_, List.getElem?_eq_getElem (by omega)⟩
  rcases Nat.lt_or_ge k f.blocks.length with hlt | hge
  · have hltI : ((k : Nat) : Int) < ((f.blocks.length : Nat) : Int) := by omega
    obtain ⟨xb, hxb⟩ : ∃ x, all[k]? = some x := ⟨_, List.getElem?_eq_getElem (by omega)⟩
    obtain ⟨xw, hxw⟩ : ∃ x, wo[k]? = some x := ⟨_, List.getElem?_eq_getElem (by omega)⟩
    have hcell : cellT all wo a k = (xa && (xb && (decide (a = k) || !xw))) := by unfold cellT; simp only [List.getD, hxa, hxb, hxw, Option.getD_some]
    refine .inl ⟨k + 1, ?_, hlt, by omega, rfl⟩
    rw [rowT_next, hcell]
    by_cases hak : a = k
    · subst hak
      rw [hxa] at hxb; cases hxb
      cases xa <;> simp (disch := omega) [round_eq, tbS, encFn, Tryz.f23, lv23, hlt, hltI, hxa, hal, hwl, ha, room_of, boolsOf_snoc, wrap_i64, -getElem?_pos]
    · have hakI : (((a : Nat) : Int) == ((k : Nat) : Int)) = false := by simp; omega
      cases xa <;> cases xb <;> cases xw <;> simp (disch := omega) [round_eq, tbS, encFn, Tryz.f23, lv23, hlt, hltI, hxa, hxb, hxw, hal, hwl, ha, hak, hakI, room_of, boolsOf_snoc, wrap_i64, -getElem?_pos]
  · have : k = f.blocks.length := by omega
    subst this
    refine .inr ⟨?_, nofun⟩
    simp (disch := omega) [round_eq, tbS, encFn, Tryz.f23, lv23, -getElem?_pos]

def TRows (n : Nat) (ss : List (List Int)) (all : List Bool) (rows : List (List Bool)) : Prop :=
  ∀ (a : Nat) r, rows[a]? = some r → ∃ wo : List Bool, r = rowT all wo a n ∧ wo.length = n ∧ ∀ v, Mt wo v ↔ Rch ss [0] (a : Int) v

theorem tb_out (h : Heap) (f : Fn) (hn : f.blocks.length ≤ 1000) (ss : List (List Int)) (hs : ss.length = f.blocks.length) (h0 : 0 < ss.length) (hEl : ∀ l, l ∈ ss → l.length ≤ 100000 ∧ ∀ x, x ∈ l → 0 ≤ x ∧ x < ss.length) (all : List Bool) (hal : all.length = f.blocks.length) :
    ∃ rows, rows.length = f.blocks.length ∧ TRows f.blocks.length ss all rows ∧
    lpK 23 Tryz.f23 63 0 h (tbS h f ss all 0 .junk none .junk []) = some (.exit 0, tbS h f ss all f.blocks.length .junk none .junk rows) := by
  have key := loop_rel (P := Tryz.prog) (C := cfg) (sc := runScope Tryz.prog cfg 63 h.length (cfg.live 23) 0) (N := 63) (n0 := h.length) (K := cfg.live 23) (c := loopAt Tryz.f23 0)
    (fun rows : List (List Bool) => tbS h f ss all rows.length .junk none .junk rows) (fun rows => rows.length ≤ f.blocks.length ∧ TRows f.blocks.length ss all rows) (fun rows => f.blocks.length - rows.length)
    (fun _ r => ∃ rows, rows.length = f.blocks.length ∧ TRows f.blocks.length ss all rows ∧ r = (.exit 0, tbS h f ss all f.blocks.length .junk none .junk rows)) ?_ [] ⟨Nat.zero_le _, fun a r h => by simp at h⟩
  · obtain ⟨r, h1, rows, h2, h3, rfl⟩ := key
    exact ⟨rows, h2, h3, h1⟩
  rintro rows ⟨j1, j2⟩
  rcases Nat.lt_or_ge rows.length f.blocks.length with hlt | hge
  · have hltI : ((rows.length : Nat) : Int) < ((f.blocks.length : Nat) : Int) := by omega
    obtain ⟨wo, w1, w2, e1⟩ := met9 (h ++ [some (.row 5 [encFn f]), none, some (.row 1 (tabOf rows))]) f ss hs h0 (rows.length : Int) (by omega) hEl
    have e2 := tb_in h f hn ss all wo hal (by omega) rows.length hlt rows (by omega)
    refine .inl ⟨rows ++ [rowT all wo rows.length f.blocks.length], ?_, ⟨by simp; omega, fun a r hr => ?_⟩, by simp; omega, fun r h => h⟩
    · simp [encFn] at e1
      simp [tbS, encFn, lpK, lv23, Tryz.f23] at e2
      simp (disch := (first | omega | simp (disch := omega) [])) [round_eq, tbS, encFn, Tryz.f23, lv23, hlt, hltI, e1, e2, room_of, tabOf_snoc, wrap_i64, -getElem?_pos]
    · rcases Nat.lt_or_ge a rows.length with ha | ha
      · rw [List.getElem?_append_left ha] at hr
        exact j2 a r hr
      · have hal := (List.getElem?_eq_some_iff.1 hr).1
        simp at hal
        obtain rfl : a = rows.length := by omega
        simp at hr
        exact ⟨wo, hr.symm, by omega, w2⟩
  · have : rows.length = f.blocks.length := by omega
    refine .inr ⟨(.exit 0, tbS h f ss all f.blocks.length .junk none .junk rows), ?_, nofun, rows, this, j2, rfl⟩
    rw [this]
    simp (disch := omega) [round_eq, tbS, encFn, Tryz.f23, lv23, this, -getElem?_pos]

def TabG (n : Nat) (ss : List (List Int)) (rows : List (List Bool)) : Prop :=
  rows.length = n ∧ ∀ a, a < n → ∃ r, rows[a]? = some r ∧ r.length = n ∧ ∀ b, b < n → ∃ x, r[b]? = some x ∧ (x = true ↔ Rch ss [0] (-1) a ∧ Rch ss [0] (-1) b ∧ (a = b ∨ ¬ Rch ss [0] (a : Int) b))

theorem table (h : Heap) (f : Fn) (hf : f.Fine) (hn0 : 0 < f.blocks.length) : ∃ rows, TabG f.blocks.length (f.blocks.map nextB) rows ∧ CX 23 [.agg (encFn f)] h = some (Sl (tabOf rows), h, []) := by
  have hb := hf.len
  have hs : (f.blocks.map nextB).length = f.blocks.length := by simp
  have hEl : ∀ l, l ∈ f.blocks.map nextB → l.length ≤ 100000 ∧ ∀ x, x ∈ l → 0 ≤ x ∧ x < (f.blocks.map nextB).length := fun l hl => by
    have := hf.edges.each l hl
    exact ⟨by omega, this.2⟩
  have e1 := fun h => succs8 h f hf.ok hf.ended hb
  obtain ⟨all, a1, a2, e2⟩ := met9 (h ++ [some (.row 5 [encFn f])]) f (f.blocks.map nextB) hs (by omega) (-1) (by omega) hEl
  obtain ⟨rows, r1, r2, e3⟩ := tb_out h f hb (f.blocks.map nextB) hs (by omega) hEl all (by omega)
  refine ⟨rows, ⟨r1, fun a ha => ?_⟩, CI_of Tryz.func23 rfl 0 ?_⟩
  · obtain ⟨r, hr⟩ : ∃ r, rows[a]? = some r := ⟨_, List.getElem?_eq_getElem (by omega)⟩
    obtain ⟨wo, rfl, w1, w2⟩ := r2 a r hr
    refine ⟨_, hr, by simp, fun b hbn => ⟨cellT all wo a b, by simp [rowT, List.getElem?_range hbn], ?_⟩⟩
    have gD : ∀ (m : List Bool) (v : Nat), m.getD v false = true ↔ Mt m v := by
      intro m v
      unfold Mt
      rw [List.getD]
      cases m[v]? with
      | none => simp
      | some x => simp
    unfold cellT
    rw [Bool.and_eq_true, Bool.and_eq_true, gD, gD, a2, a2, Bool.or_eq_true, decide_eq_true_iff, Bool.not_eq_true', ← Bool.not_eq_true, gD, w2]
  · have hk : cfg.keep 23 = 0 := rfl
    simp [encFn] at e1 e2
    simp [tbS, encFn, lpK, lv23, Tryz.f23] at e3
    simp (disch := omega) [Tryz.f23, lv23, hk, encFn, e1, e2, e3, -getElem?_pos]

theorem ahead9 (h : Heap) (rows : List (List Bool)) (hrl : rows.length ≤ 1000) (a b : Nat) (r : List Bool) (x : Bool) (hr : rows[a]? = some r) (hx : r[b]? = some x) (hl : r.length = rows.length) : CX 50 [Sl (tabOf rows), I (a : Nat), I (b : Nat)] h = some (Bo x, h, []) := by
  have ha := (List.getElem?_eq_some_iff.1 hr).1
  have hb := (List.getElem?_eq_some_iff.1 hx).1
  have haI : ¬ ((rows.length : Nat) : Int) ≤ ((a : Nat) : Int) := by omega
  have hbI : ¬ ((rows.length : Nat) : Int) ≤ ((b : Nat) : Int) := by omega
  have haN : ¬ rows.length ≤ a := by omega
  have hbN : ¬ rows.length ≤ b := by omega
  have hbl : b < rows.length := by omega
  have ha0 : ¬ ((a : Nat) : Int) < 0 := by omega
  have hb0 : ¬ ((b : Nat) : Int) < 0 := by omega
  refine CI_of Tryz.func50 rfl 0 ?_
  have hk : cfg.keep 50 = 0 := rfl
  simp (disch := omega) [Tryz.f50, hk, hr, hx, ha, hb, ha0, hb0, hl, hbl, haI, hbI, haN, hbN, -getElem?_pos]
end Go.Proofs.YtdkknhpdjcdmfaaGreat.Abs

/- Is a function well shaped? -/
set_option linter.unusedSimpArgs false
set_option linter.unusedVariables false
namespace Go.Proofs.YtdkknhpdjcdmfaaGreat.Abs
open Go Go.RowKit Go.Proofs

def endsB (op : Int) : Bool := decide (26 ≤ op) && decide (op ≤ 29)
theorem ends (h : Heap) (op : Int) : CX 154 [I op] h = some (Bo (endsB op), h, []) := by
  refine CI_of Tryz.func154 rfl 0 ?_
  have hk : cfg.keep 154 = 0 := rfl
  unfold endsB
  by_cases h1 : 26 ≤ op
  · by_cases h2 : op ≤ 29 <;> simp (disch := omega) [Tryz.f154, hk, h1, h2]
  · simp (disch := omega) [Tryz.f154, hk, h1]

def InsOK (n len i : Nat) (x : Ins) : Prop := endsB x.op = decide (i + 1 = len) ∧ (x.op ≠ 20 → ∀ b, b ∈ x.to → 0 ≤ b ∧ b < n)

def insV (id : Nat) : Option Ins → V
  | none => .junk
  | some _ => .one (.ptr id 1 0 0)
def insO : Option Ins → Option AO
  | none => none
  | some x => some (.row 8 [encIns x])
def natV : Option Nat → V
  | none => .junk
  | some k => I (k : Nat)
@[simp] theorem insV_none (id : Nat) : insV id none = .junk := rfl
@[simp] theorem insV_some (id : Nat) (x : Ins) : insV id (some x) = .one (.ptr id 1 0 0) := rfl
@[simp] theorem insO_none : insO none = none := rfl
@[simp] theorem insO_some (x : Ins) : insO (some x) = some (.row 8 [encIns x]) := rfl
@[simp] theorem natV_none : natV none = .junk := rfl
@[simp] theorem natV_some (k : Nat) : natV (some k) = I (k : Nat) := rfl

def shS (h : Heap) (f : Fn) (k : Nat) (o5 o4 : Option Nat) (o6 : Option Ins) (o7 : Option Nat) (c a : Int) : St :=
  ⟨[(1, .one (.ptr h.length 1 0 0)), (2, .one (.ptr (h.length + 1) 1 0 0)), (3, I (k : Nat)), (5, natV o5), (4, natV o4), (6, insV (h.length + 2) o6), (7, natV o7), (1006, .junk), (1007, .junk), (1005, .junk), (1004, .junk)],
   h ++ [some (.row 5 [encFn f]), some (.row 2 [[.int .i64 c, .int .i64 a]]), insO o6], []⟩
def ShRet (h : Heap) (f : Fn) (r : AX × St) : Prop := ∃ (k i n : Nat) (o6 : Option Ins) (o7 : Option Nat) (c a : Int), c ≠ 0 ∧ r = (.ret, shS h f k (some i) (some n) o6 o7 c a)

theorem sh_c (h : Heap) (f : Fn) (hn : f.blocks.length ≤ 1000) (k i n : Nat) (x : Ins) (hx : x.Ok) :
    ∃ r, lpK 104 Tryz.f104 85 2 h (shS h f k (some i) (some n) (some x) (some 0) 0 0) = some r ∧
      ((∃ j : Nat, r = (.exit 4, shS h f k (some i) (some n) (some x) (some j) 0 0) ∧ (x.op ≠ 20 → ∀ b, b ∈ x.to → 0 ≤ b ∧ b < f.blocks.length)) ∨ ShRet h f r) := by
  have q := qt104
  simp [Tryz.f104, quietFn, quietRegs] at q
  have hxt := hx.to
  refine loop_rel (P := Tryz.prog) (C := cfg) (sc := runScope Tryz.prog cfg 85 h.length (cfg.live 104) 0) (N := 85) (n0 := h.length) (K := cfg.live 104) (c := loopAt Tryz.f104 2)
    (fun j : Nat => shS h f k (some i) (some n) (some x) (some j) 0 0) (fun j => j ≤ x.to.length ∧ ∀ (t : Nat) b, x.to[t]? = some b → t < j → 0 ≤ b ∧ b < f.blocks.length) (fun j => x.to.length - j)
    (fun _ r => (∃ j : Nat, r = (.exit 4, shS h f k (some i) (some n) (some x) (some j) 0 0) ∧ (x.op ≠ 20 → ∀ b, b ∈ x.to → 0 ≤ b ∧ b < f.blocks.length)) ∨ ShRet h f r) ?_ 0 ⟨Nat.zero_le _, fun t b _ ht => by omega⟩
  rintro j ⟨j1, j2⟩
  rcases Nat.lt_or_ge j x.to.length with hlt | hge
  · have hltI : ((j : Nat) : Int) < ((x.to.length : Nat) : Int) := by omega
    by_cases hop : x.op = 20
    · refine .inr ⟨(.exit 4, shS h f k (some i) (some n) (some x) (some j) 0 0), ?_, nofun, .inl ⟨j, rfl, fun h => absurd hop h⟩⟩
      have hopB : (x.op != 20) = false := by simp [hop]
      simp (disch := omega) [round_eq, shS, encIns, encFn, Tryz.f104, lv104, q, hlt, hltI, hopB, -getElem?_pos]
    · have hopB : (x.op != 20) = true := by simp [hop]
      obtain ⟨b, hb⟩ : ∃ b, x.to[j]? = some b := ⟨_, List.getElem?_eq_getElem hlt⟩
      by_cases hb0 : b < 0
      · refine .inr ⟨(.ret, shS h f k (some i) (some n) (some x) (some j) 7 k), ?_, nofun, .inr ⟨k, i, n, some x, some j, 7, k, by simp, rfl⟩⟩
        simp (disch := omega) [round_eq, shS, encIns, encFn, Tryz.f104, lv104, q, hlt, hltI, hopB, hb, hb0, wrap_i64, -getElem?_pos]
      · by_cases hbn : (f.blocks.length : Int) ≤ b
        · refine .inr ⟨(.ret, shS h f k (some i) (some n) (some x) (some j) 7 k), ?_, nofun, .inr ⟨k, i, n, some x, some j, 7, k, by simp, rfl⟩⟩
          simp (disch := omega) [round_eq, shS, encIns, encFn, Tryz.f104, lv104, q, hlt, hltI, hopB, hb, hb0, hbn, wrap_i64, -getElem?_pos]
        · refine .inl ⟨j + 1, ?_, ⟨hlt, fun t c hc ht => ?_⟩, by omega, fun r h => h⟩
          · simp (disch := omega) [round_eq, shS, encIns, encFn, Tryz.f104, lv104, q, hlt, hltI, hopB, hb, hb0, hbn, wrap_i64, -getElem?_pos]
          · rcases Nat.lt_or_ge t j with htj | htj
            · exact j2 t c hc htj
            · obtain rfl : t = j := by omega
              rw [hb] at hc; cases hc
              omega
  · have : j = x.to.length := by omega
    subst this
    refine .inr ⟨(.exit 4, shS h f k (some i) (some n) (some x) (some x.to.length) 0 0), ?_, nofun, .inl ⟨_, rfl, fun _ b hb => ?_⟩⟩
    · simp (disch := omega) [round_eq, shS, encIns, encFn, Tryz.f104, lv104, q, -getElem?_pos]
    · obtain ⟨t, ht⟩ := List.getElem?_of_mem hb
      exact j2 t b ht (List.getElem?_eq_some_iff.1 ht).1

theorem sh_b (h : Heap) (f : Fn) (hn : f.blocks.length ≤ 1000) (k : Nat) (l : List Ins) (hl : f.blocks[k]? = some l) (hll : l.length ≤ 100000) (hok : ∀ x, x ∈ l → x.Ok) :
    ∃ r, lpK 104 Tryz.f104 85 1 h (shS h f k (some 0) (some l.length) none none 0 0) = some r ∧
      ((r = (.exit 2, shS h f k (some l.length) (some l.length) none none 0 0) ∧ ∀ (i : Nat) x, l[i]? = some x → InsOK f.blocks.length l.length i x) ∨ ShRet h f r) := by
  have q := qt104
  simp [Tryz.f104, quietFn, quietRegs] at q
  have hkl := (List.getElem?_eq_some_iff.1 hl).1
  refine loop_rel (P := Tryz.prog) (C := cfg) (sc := runScope Tryz.prog cfg 85 h.length (cfg.live 104) 0) (N := 85) (n0 := h.length) (K := cfg.live 104) (c := loopAt Tryz.f104 1)
    (fun i : Nat => shS h f k (some i) (some l.length) none none 0 0) (fun i => i ≤ l.length ∧ ∀ (t : Nat) x, l[t]? = some x → t < i → InsOK f.blocks.length l.length t x) (fun i => l.length - i)
    (fun _ r => (r = (.exit 2, shS h f k (some l.length) (some l.length) none none 0 0) ∧ ∀ (i : Nat) x, l[i]? = some x → InsOK f.blocks.length l.length i x) ∨ ShRet h f r) ?_ 0 ⟨Nat.zero_le _, fun t b _ ht => by omega⟩
  rintro i ⟨j1, j2⟩
  rcases Nat.lt_or_ge i l.length with hlt | hge
  · have hltI : ((i : Nat) : Int) < ((l.length : Nat) : Int) := by omega
    obtain ⟨x, hx⟩ : ∃ x, l[i]? = some x := ⟨_, List.getElem?_eq_getElem hlt⟩
    have hxo := hok x (List.mem_of_getElem? hx)
    have hdec : (((i : Nat) : Int) + 1 == ((l.length : Nat) : Int)) = decide (i + 1 = l.length) := by
      rw [Bool.eq_iff_iff]; simp; omega
    by_cases hE : endsB x.op = decide (i + 1 = l.length)
    · have hEB : (endsB x.op != decide (i + 1 = l.length)) = false := by rw [hE]; simp
      obtain ⟨r, e, hr⟩ := sh_c h f hn k i l.length x hxo
      rcases hr with ⟨j, rfl, hr⟩ | ⟨k', i', n', o6, o7, c, a, hc, rfl⟩
      · refine .inl ⟨i + 1, ?_, ⟨hlt, fun t y hy ht => ?_⟩, by omega, fun r h => h⟩
        · simp [shS, encIns, encFn, lpK, lv104, Tryz.f104] at e
          simp (disch := omega) [round_eq, shS, encIns, encFn, Tryz.f104, lv104, q, hl, hkl, hx, hlt, hltI, ends, hdec, hEB, e, wrap_i64, -getElem?_pos]
        · rcases Nat.lt_or_ge t i with hti | hti
          · exact j2 t y hy hti
          · obtain rfl : t = i := by omega
            rw [hx] at hy; cases hy
            exact ⟨hE, hr⟩
      · refine .inr ⟨(.ret, shS h f k' (some i') (some n') o6 o7 c a), ?_, nofun, .inr ⟨k', i', n', o6, o7, c, a, hc, rfl⟩⟩
        cases o6 <;> cases o7 <;>
        (simp [shS, encIns, encFn, lpK, lv104, Tryz.f104] at e
         simp (disch := omega) [round_eq, shS, encIns, encFn, Tryz.f104, lv104, q, hl, hkl, hx, hlt, hltI, ends, hdec, hEB, e, wrap_i64, -getElem?_pos])
    · have hEB : (endsB x.op != decide (i + 1 = l.length)) = true := by simpa using hE
      refine .inr ⟨(.ret, shS h f k (some i) (some l.length) (some x) none 15 k), ?_, nofun, .inr ⟨k, i, l.length, some x, none, 15, k, by simp, rfl⟩⟩
      simp (disch := omega) [round_eq, shS, encIns, encFn, Tryz.f104, lv104, q, hl, hkl, hx, hlt, hltI, ends, hdec, hEB, wrap_i64, -getElem?_pos]
  · have : i = l.length := by omega
    subst this
    refine .inr ⟨(.exit 2, shS h f k (some l.length) (some l.length) none none 0 0), ?_, nofun, .inl ⟨rfl, fun t x hx => j2 t x hx (List.getElem?_eq_some_iff.1 hx).1⟩⟩
    simp (disch := omega) [round_eq, shS, encIns, encFn, Tryz.f104, lv104, q, -getElem?_pos]

def ShOK (f : Fn) : Prop := ∀ l, l ∈ f.blocks → l ≠ [] ∧ ∀ (i : Nat) x, l[i]? = some x → InsOK f.blocks.length l.length i x

theorem sh_a (h : Heap) (f : Fn) (hf : f.Ok) (hn : f.blocks.length ≤ 1000) (hc : ∀ l, l ∈ f.blocks → l.length ≤ 100000) :
    ∃ r, lpK 104 Tryz.f104 85 0 h (shS h f 0 none none none none 0 0) = some r ∧ ((r = (.exit 0, shS h f f.blocks.length none none none none 0 0) ∧ ShOK f) ∨ ShRet h f r) := by
  have q := qt104
  simp [Tryz.f104, quietFn, quietRegs] at q
  refine loop_rel (P := Tryz.prog) (C := cfg) (sc := runScope Tryz.prog cfg 85 h.length (cfg.live 104) 0) (N := 85) (n0 := h.length) (K := cfg.live 104) (c := loopAt Tryz.f104 0)
    (fun k : Nat => shS h f k none none none none 0 0) (fun k => k ≤ f.blocks.length ∧ ∀ (t : Nat) l, f.blocks[t]? = some l → t < k → l ≠ [] ∧ ∀ (i : Nat) x, l[i]? = some x → InsOK f.blocks.length l.length i x) (fun k => f.blocks.length - k)
    (fun _ r => (r = (.exit 0, shS h f f.blocks.length none none none none 0 0) ∧ ShOK f) ∨ ShRet h f r) ?_ 0 ⟨Nat.zero_le _, fun t b _ ht => by omega⟩
  rintro k ⟨j1, j2⟩
  rcases Nat.lt_or_ge k f.blocks.length with hlt | hge
  · have hltI : ((k : Nat) : Int) < ((f.blocks.length : Nat) : Int) := by omega
    obtain ⟨l, hl⟩ : ∃ l, f.blocks[k]? = some l := ⟨_, List.getElem?_eq_getElem hlt⟩
    have hm := List.mem_of_getElem? hl
    obtain ⟨r, e, hr⟩ := sh_b h f hn k l hl (hc l hm) (hf.each l hm)
    rcases hr with ⟨rfl, hr⟩ | ⟨k', i', n', o6, o7, c, a, hc, rfl⟩
    · simp [shS, encFn, lpK, lv104, Tryz.f104] at e
      by_cases hne : l = []
      · subst hne
        refine .inr ⟨(.ret, shS h f k (some 0) (some 0) none none 15 k), ?_, nofun, .inr ⟨k, 0, 0, none, none, 15, k, by simp, rfl⟩⟩
        simp at e
        simp (disch := omega) [round_eq, shS, encFn, Tryz.f104, lv104, q, hl, hlt, hltI, e, wrap_i64, -getElem?_pos]
      · have hlp := List.length_pos_iff.2 hne
        have hl0 : ¬ l.length = 0 := by omega
        have hlI : (((l.length : Nat) : Int) == 0) = false := by simp; omega
        refine .inl ⟨k + 1, ?_, ⟨hlt, fun t y hy ht => ?_⟩, by omega, fun r h => h⟩
        · simp (disch := omega) [round_eq, shS, encFn, Tryz.f104, lv104, q, hl, hlt, hltI, hne, hl0, hlI, e, wrap_i64, -getElem?_pos]
        · rcases Nat.lt_or_ge t k with hti | hti
          · exact j2 t y hy hti
          · obtain rfl : t = k := by omega
            rw [hl] at hy; cases hy
            exact ⟨hne, hr⟩
    · refine .inr ⟨(.ret, shS h f k' (some i') (some n') o6 o7 c a), ?_, nofun, .inr ⟨k', i', n', o6, o7, c, a, hc, rfl⟩⟩
      cases o6 <;> cases o7 <;>
      (simp [shS, encIns, encFn, lpK, lv104, Tryz.f104] at e
       simp (disch := omega) [round_eq, shS, encIns, encFn, Tryz.f104, lv104, q, hl, hlt, hltI, e, wrap_i64, -getElem?_pos])
  · have : k = f.blocks.length := by omega
    subst this
    refine .inr ⟨(.exit 0, shS h f f.blocks.length none none none none 0 0), ?_, nofun, .inl ⟨rfl, fun l hl => ?_⟩⟩
    · simp (disch := omega) [round_eq, shS, encFn, Tryz.f104, lv104, q, -getElem?_pos]
    · obtain ⟨t, ht⟩ := List.getElem?_of_mem hl
      exact j2 t l ht (List.getElem?_eq_some_iff.1 ht).1

theorem shaped (h : Heap) (f : Fn) (hf : f.Ok) (hn : f.blocks.length ≤ 1000) (hc : ∀ l, l ∈ f.blocks → l.length ≤ 100000) :
    ∃ c a : Int, CX 104 [.agg (encFn f)] h = some (.agg [.int .i64 c, .int .i64 a], h, []) ∧ (c = 0 → 0 < f.blocks.length ∧ ShOK f) := by
  have hk : cfg.keep 104 = 0 := rfl
  have q := qt104
  simp [Tryz.f104, quietFn, quietRegs] at q
  by_cases h0 : f.blocks.length = 0
  · refine ⟨15, 0, CI_of Tryz.func104 rfl 0 ?_, fun h => by simp at h⟩
    simp (disch := omega) [Tryz.f104, lv104, hk, encFn, h0, -getElem?_pos]
  · have hB : (((f.blocks.length : Nat) : Int) == 0) = false := by rw [beq_eq_false_iff_ne]; omega
    obtain ⟨r, e, hr⟩ := sh_a h f hf hn hc
    rcases hr with ⟨rfl, hr⟩ | ⟨k', i', n', o6, o7, c, a, hc, rfl⟩
    · refine ⟨0, 0, CI_of Tryz.func104 rfl 0 ?_, fun _ => ⟨by omega, hr⟩⟩
      simp [shS, encIns, encFn, lpK, lv104, Tryz.f104] at e
      simp (disch := omega) [Tryz.f104, lv104, hk, encFn, h0, hB, e, -getElem?_pos]
    · refine ⟨c, a, CI_of Tryz.func104 rfl 0 ?_, fun h => absurd h hc⟩
      cases o6 <;> cases o7 <;>
      (simp [shS, encIns, encFn, lpK, lv104, Tryz.f104] at e
       simp (disch := omega) [Tryz.f104, lv104, hk, encFn, h0, hB, e, -getElem?_pos])
end Go.Proofs.YtdkknhpdjcdmfaaGreat.Abs

/- Is a function no more than is waited for? What is known of it then; functions as they are handed in. -/
set_option linter.unusedSimpArgs false
set_option linter.unusedVariables false
namespace Go.Proofs.YtdkknhpdjcdmfaaGreat.Abs
open Go Go.RowKit Go.Proofs

def ltS (h : Heap) (f : Fn) (i n : Nat) (o5 : Option Nat) (r : Int) : St :=
  ⟨[(1, .one (.ptr h.length 1 0 0)), (4, I (i : Nat)), (3, I (n : Nat)), (5, natV o5), (2, I r), (1005, .junk)], h ++ [some (.row 5 [encFn f])], []⟩
def LtRet (h : Heap) (f : Fn) (r : AX × St) : Prop := ∃ (i n : Nat) (o5 : Option Nat), r = (.ret, ltS h f i n o5 1)
theorem lt_in (h : Heap) (f : Fn) (hn : f.blocks.length ≤ 1000) (i n : Nat) (l : List Ins) (hl : f.blocks[i]? = some l) (hll : l.length ≤ 100000) (hok : ∀ x, x ∈ l → x.Ok) :
    ∃ r, lpK 84 Tryz.f84 66 1 h (ltS h f i n (some 0) 0) = some r ∧ ((r = (.exit 2, ltS h f i n (some l.length) 0) ∧ ∀ x, x ∈ l → x.to.length ≤ 30) ∨ LtRet h f r) := by
  have hkl := (List.getElem?_eq_some_iff.1 hl).1
  refine loop_rel (P := Tryz.prog) (C := cfg) (sc := runScope Tryz.prog cfg 66 h.length (cfg.live 84) 0) (N := 66) (n0 := h.length) (K := cfg.live 84) (c := loopAt Tryz.f84 1)
    (fun j : Nat => ltS h f i n (some j) 0) (fun j => j ≤ l.length ∧ ∀ (t : Nat) x, l[t]? = some x → t < j → x.to.length ≤ 30) (fun j => l.length - j)
    (fun _ r => (r = (.exit 2, ltS h f i n (some l.length) 0) ∧ ∀ x, x ∈ l → x.to.length ≤ 30) ∨ LtRet h f r) ?_ 0 ⟨Nat.zero_le _, fun t b _ ht => by omega⟩
  rintro j ⟨j1, j2⟩
  rcases Nat.lt_or_ge j l.length with hlt | hge
  · have hltI : ((j : Nat) : Int) < ((l.length : Nat) : Int) := by omega
    obtain ⟨x, hx⟩ : ∃ x, l[j]? = some x := ⟨_, List.getElem?_eq_getElem hlt⟩
    have hxo := hok x (List.mem_of_getElem? hx)
    have hxt := hxo.to
    have hxa := hxo.args
    by_cases ht : 30 < x.to.length
    · have htI : (30 : Int) < ((x.to.length : Nat) : Int) := by omega
      refine .inr ⟨(.ret, ltS h f i n (some j) 1), ?_, nofun, .inr ⟨i, n, some j, rfl⟩⟩
      simp (disch := omega) [round_eq, ltS, encIns, encFn, Tryz.f84, lv84, hl, hkl, hx, hlt, hltI, ht, htI, wrap_i64, -getElem?_pos]
    · have htI : ¬ (30 : Int) < ((x.to.length : Nat) : Int) := by omega
      by_cases ha : 30 < x.args.length
      · have haI : (30 : Int) < ((x.args.length : Nat) : Int) := by omega
        refine .inr ⟨(.ret, ltS h f i n (some j) 1), ?_, nofun, .inr ⟨i, n, some j, rfl⟩⟩
        simp (disch := omega) [round_eq, ltS, encIns, encFn, Tryz.f84, lv84, hl, hkl, hx, hlt, hltI, ht, htI, ha, haI, wrap_i64, -getElem?_pos]
      · have haI : ¬ (30 : Int) < ((x.args.length : Nat) : Int) := by omega
        by_cases hm : 100 < x.name.length
        · have hmI : (100 : Int) < ((x.name.length : Nat) : Int) := by omega
          refine .inr ⟨(.ret, ltS h f i n (some j) 1), ?_, nofun, .inr ⟨i, n, some j, rfl⟩⟩
          simp (disch := omega) [round_eq, ltS, encIns, encFn, Tryz.f84, lv84, hl, hkl, hx, hlt, hltI, ht, htI, ha, haI, hm, hmI, wrap_i64, -getElem?_pos]
        · have hmI : ¬ (100 : Int) < ((x.name.length : Nat) : Int) := by omega
          refine .inl ⟨j + 1, ?_, ⟨hlt, fun t y hy ht' => ?_⟩, by omega, fun r h => h⟩
          · simp (disch := omega) [round_eq, ltS, encIns, encFn, Tryz.f84, lv84, hl, hkl, hx, hlt, hltI, ht, htI, ha, haI, hm, hmI, wrap_i64, -getElem?_pos]
          · rcases Nat.lt_or_ge t j with htj | htj
            · exact j2 t y hy htj
            · obtain rfl : t = j := by omega
              rw [hx] at hy; cases hy
              omega
  · have : j = l.length := by omega
    subst this
    refine .inr ⟨(.exit 2, ltS h f i n (some l.length) 0), ?_, nofun, .inl ⟨rfl, fun x hx => ?_⟩⟩
    · simp (disch := omega) [round_eq, ltS, encIns, encFn, Tryz.f84, lv84, hl, hkl, -getElem?_pos]
    · obtain ⟨t, ht⟩ := List.getElem?_of_mem hx
      exact j2 t x ht (List.getElem?_eq_some_iff.1 ht).1

def LtOK (l : List Ins) : Prop := l.length ≤ 150 ∧ ∀ x, x ∈ l → x.to.length ≤ 30
theorem lt_out (h : Heap) (f : Fn) (hf : f.Ok) (hn : f.blocks.length ≤ 1000) :
    ∃ r, lpK 84 Tryz.f84 66 0 h (ltS h f 0 0 none 0) = some r ∧ ((∃ n, r = (.exit 0, ltS h f f.blocks.length n none 0) ∧ ∀ l, l ∈ f.blocks → LtOK l) ∨ LtRet h f r) := by
  refine loop_rel (P := Tryz.prog) (C := cfg) (sc := runScope Tryz.prog cfg 66 h.length (cfg.live 84) 0) (N := 66) (n0 := h.length) (K := cfg.live 84) (c := loopAt Tryz.f84 0)
    (fun s : Nat × Nat => ltS h f s.1 s.2 none 0) (fun s => s.1 ≤ f.blocks.length ∧ s.2 ≤ 150 ∧ ∀ (t : Nat) l, f.blocks[t]? = some l → t < s.1 → LtOK l) (fun s => f.blocks.length - s.1)
    (fun _ r => (∃ n, r = (.exit 0, ltS h f f.blocks.length n none 0) ∧ ∀ l, l ∈ f.blocks → LtOK l) ∨ LtRet h f r) ?_ (0, 0) ⟨Nat.zero_le _, by simp, fun t b _ ht => by simp only at ht; omega⟩
  rintro ⟨i, n⟩ ⟨j1, j2, j3⟩
  simp only at j1 j2 j3 ⊢
  rcases Nat.lt_or_ge i f.blocks.length with hlt | hge
  · have hltI : ((i : Nat) : Int) < ((f.blocks.length : Nat) : Int) := by omega
    obtain ⟨l, hl⟩ : ∃ l, f.blocks[i]? = some l := ⟨_, List.getElem?_eq_getElem hlt⟩
    have hm := List.mem_of_getElem? hl
    have hlf := hf.code l hm
    by_cases hb : 150 < n + l.length
    · have hbI : (150 : Int) < ((n : Nat) : Int) + ((l.length : Nat) : Int) := by omega
      refine .inr ⟨(.ret, ltS h f i (n + l.length) none 1), ?_, nofun, .inr ⟨i, n + l.length, none, rfl⟩⟩
      simp (disch := omega) [round_eq, ltS, encFn, Tryz.f84, lv84, hl, hlt, hltI, hb, hbI, wrap_i64, -getElem?_pos]
    · have hbI : ¬ (150 : Int) < ((n : Nat) : Int) + ((l.length : Nat) : Int) := by omega
      obtain ⟨r, e, hr⟩ := lt_in h f hn i (n + l.length) l hl (by omega) (hf.each l hm)
      rcases hr with ⟨rfl, hr⟩ | ⟨i', n', o5, rfl⟩
      · refine .inl ⟨(i + 1, n + l.length), ?_, ⟨hlt, by simp only; omega, fun t y hy ht => ?_⟩, by simp only; omega, fun r h => h⟩
        · simp [ltS, encFn, lpK, lv84, Tryz.f84] at e
          simp (disch := omega) [round_eq, ltS, encFn, Tryz.f84, lv84, hl, hlt, hltI, hb, hbI, e, wrap_i64, -getElem?_pos]
        · rcases Nat.lt_or_ge t i with hti | hti
          · exact j3 t y hy hti
          · obtain rfl : t = i := by simp only at ht; omega
            rw [hl] at hy; cases hy
            exact ⟨by omega, hr⟩
      · refine .inr ⟨(.ret, ltS h f i' n' o5 1), ?_, nofun, .inr ⟨i', n', o5, rfl⟩⟩
        cases o5 <;>
        (simp [ltS, encFn, lpK, lv84, Tryz.f84] at e
         simp (disch := omega) [round_eq, ltS, encFn, Tryz.f84, lv84, hl, hlt, hltI, hb, hbI, e, wrap_i64, -getElem?_pos])
  · have : i = f.blocks.length := by omega
    subst this
    refine .inr ⟨(.exit 0, ltS h f f.blocks.length n none 0), ?_, nofun, .inl ⟨n, rfl, fun l hl => ?_⟩⟩
    · simp (disch := omega) [round_eq, ltS, encFn, Tryz.f84, lv84, -getElem?_pos]
    · obtain ⟨t, ht⟩ := List.getElem?_of_mem hl
      exact j3 t l ht (List.getElem?_eq_some_iff.1 ht).1

theorem light8 (h : Heap) (f : Fn) (hf : f.Ok) :
    ∃ r : Int, CX 84 [.agg (encFn f)] h = some (I r, h, []) ∧ (r = 0 → 0 < f.blocks.length ∧ f.blocks.length ≤ 24 ∧ ShOK f ∧ ∀ l, l ∈ f.blocks → LtOK l) := by
  have hk : cfg.keep 84 = 0 := rfl
  have hb := hf.blocks
  by_cases h24 : 24 < f.blocks.length
  · have h24I : (24 : Int) < ((f.blocks.length : Nat) : Int) := by omega
    refine ⟨1, CI_of Tryz.func84 rfl 0 ?_, fun h => by simp at h⟩
    simp (disch := omega) [Tryz.f84, lv84, hk, encFn, h24, h24I, -getElem?_pos]
  · have h24I : ¬ (24 : Int) < ((f.blocks.length : Nat) : Int) := by omega
    obtain ⟨r, e, hr⟩ := lt_out h f hf (by omega)
    rcases hr with ⟨n, rfl, hr⟩ | ⟨i', n', o5, rfl⟩
    · obtain ⟨c, a, e2, hs⟩ := shaped [] f hf (by omega) (fun l hl => by have := (hr l hl).1; omega)
      simp [ltS, encFn, lpK, lv84, Tryz.f84] at e
      simp [encFn] at e2
      by_cases hc : c = 0
      · subst hc
        refine ⟨0, CI_of Tryz.func84 rfl 0 ?_, fun _ => ⟨(hs rfl).1, by omega, (hs rfl).2, hr⟩⟩
        simp (disch := omega) [Tryz.f84, lv84, hk, encFn, h24, h24I, e, e2, -getElem?_pos]
      · have hcB : (c != 0) = true := by simp [hc]
        refine ⟨1, CI_of Tryz.func84 rfl 0 ?_, fun h => by simp at h⟩
        simp (disch := omega) [Tryz.f84, lv84, hk, encFn, h24, h24I, e, e2, hcB, -getElem?_pos]
    · refine ⟨1, CI_of Tryz.func84 rfl 0 ?_, fun h => by simp at h⟩
      cases o5 <;>
      (simp [ltS, encFn, lpK, lv84, Tryz.f84] at e
       simp (disch := omega) [Tryz.f84, lv84, hk, encFn, h24, h24I, e, -getElem?_pos])

theorem foldU_mem : ∀ (xs out : List Int) (b : Int), b ∈ xs.foldl addU out → b ∈ out ∨ b ∈ xs
  | [], out, b, h => .inl h
  | x :: xs, out, b, h => by
    rw [List.foldl_cons] at h
    rcases foldU_mem xs _ b h with h | h
    · unfold addU at h
      split at h
      · exact .inl h
      · rcases List.mem_append.1 h with h | h
        · exact .inl h
        · rw [List.mem_singleton.1 h]; exact .inr (by simp)
    · exact .inr (by simp [h])
theorem fine_of {f : Fn} (hf : f.Ok) (hn : f.blocks.length ≤ 24) (hs : ShOK f) (hl : ∀ l, l ∈ f.blocks → LtOK l) : f.Fine := by
  refine ⟨hf, fun l h => (hs l h).1, by omega, ⟨by simp; omega, fun m hm => ?_⟩⟩
  obtain ⟨l, h1, rfl⟩ := List.mem_map.1 hm
  obtain ⟨g1, g2⟩ := hs l h1
  have hp := List.length_pos_iff.2 g1
  obtain ⟨x, hx⟩ : ∃ x, l[l.length - 1]? = some x := ⟨_, List.getElem?_eq_getElem (by omega)⟩
  have hto : toB l = x.to := by unfold toB; rw [hx]
  have hxl := (hl l h1).2 x (List.mem_of_getElem? hx)
  obtain ⟨k1, k2⟩ := g2 _ x hx
  have hdd : decide (l.length - 1 + 1 = l.length) = true := decide_eq_true (by omega)
  rw [hdd] at k1
  have hop : x.op ≠ 20 := fun e => by rw [e] at k1; simp [endsB] at k1
  refine ⟨?_, fun b hb => ?_⟩
  · have := foldU_len (toB l) []
    unfold nextB
    rw [hto] at this ⊢
    simp at this
    omega
  · unfold nextB at hb
    rcases foldU_mem _ _ _ hb with h | h
    · simp at h
    · rw [hto] at h
      simpa using k2 hop b h

theorem light10 (h : Heap) (f : Fn) (hf : f.Ok) :
    ∃ b : Bool, CX 37 [.agg (encFn f)] h = some (Bo b, h, []) ∧ (b = true → f.Fine ∧ 0 < f.blocks.length ∧ f.blocks.length ≤ 10) := by
  have hk : cfg.keep 37 = 0 := rfl
  have hb := hf.blocks
  obtain ⟨r, e, hr⟩ := light8 [] f hf
  simp [encFn] at e
  by_cases h0 : r = 0
  · subst h0
    obtain ⟨g1, g2, g3, g4⟩ := hr rfl
    refine ⟨decide (f.blocks.length ≤ 10), CI_of Tryz.func37 rfl 0 ?_, fun h => ⟨fine_of hf g2 g3 g4, g1, of_decide_eq_true h⟩⟩
    have hd : decide (((f.blocks.length : Nat) : Int) ≤ 10) = decide (f.blocks.length ≤ 10) := by rw [decide_eq_decide]; omega
    simp (disch := omega) [Tryz.f37, hk, encFn, e, hd, -getElem?_pos]
  · have hB : (r == 0) = false := by simp [h0]
    refine ⟨false, CI_of Tryz.func37 rfl 0 ?_, nofun⟩
    simp (disch := omega) [Tryz.f37, hk, encFn, e, hB, -getElem?_pos]

/-! Functions as they are handed in. -/
theorem list_of' {α β : Type} {f : α → β} : ∀ {es : List β}, (∀ x, x ∈ es → ∃ a, x = f a) → ∃ l : List α, es = l.map f ∧ l.length = es.length
  | [], _ => ⟨[], rfl, rfl⟩
  | e :: es, h => by
    obtain ⟨a, ha⟩ := h e List.mem_cons_self
    obtain ⟨l, hl, hn⟩ := list_of' (es := es) fun x hx => h x (List.mem_cons_of_mem _ hx)
    exact ⟨a :: l, by rw [ha, hl]; rfl, by simp [hn]⟩
theorem reach_fit' {α : Type} {xs : List α} {b : Nat} (hb : 8 ≤ b) (h : xs.length * b ≤ reachBytes) : Fit xs := by
  unfold reachBytes at h
  have : xs.length * 8 ≤ xs.length * b := Nat.mul_le_mul_left _ hb
  show xs.length ≤ _
  omega
theorem typed_ints' {ls : List Leaf} (h : Typed (.slice (.int .i64)) ls) : ∃ xs : List Int, ls = [.isl (intsOf xs)] ∧ Fit xs := by
  simp only [Typed] at h
  obtain ⟨es, rfl, h1, h2⟩ := h
  obtain ⟨xs, rfl, hl⟩ := list_of' (f := fun n : Int => [Leaf.int .i64 n]) (es := es) fun x hx => by
    obtain ⟨n, hn, _⟩ := h2 x hx; exact ⟨n, hn⟩
  exact ⟨xs, rfl, reach_fit' (b := 8) (by omega) (by rw [hl]; exact h1)⟩
theorem typed_int {ls : List Leaf} (h : Typed (.int .i64) ls) : ∃ n : Int, ls = [.int .i64 n] := by
  simp only [Typed] at h
  obtain ⟨n, rfl, _⟩ := h
  exact ⟨n, rfl⟩
theorem typed_str {ls : List Leaf} (h : Typed .str ls) : ∃ s : List UInt8, ls = [.str s] := by
  simp only [Typed] at h
  obtain ⟨n, rfl, _⟩ := h
  exact ⟨n, rfl⟩
def tIns : Ty := .struct [.int .i64, .int .i64, .int .i64, .int .i64, .slice (.int .i64), .slice (.int .i64), .str, .int .i64]
def tFn : Ty := .struct [.str, .slice (.int .i64), .int .i64, .slice (.slice tIns), .int .i64]
theorem typed_ins {ls : List Leaf} (h : Typed tIns ls) : ∃ x : { x : Ins // x.Ok }, ls = encIns x.1 := by
  simp only [Typed, tIns, TypedAll] at h
  obtain ⟨_, _, rfl, g1, _, _, rfl, g2, _, _, rfl, g3, _, _, rfl, g4, _, _, rfl, g5, _, _, rfl, g6, _, _, rfl, g7, _, _, rfl, g8, rfl⟩ := h
  obtain ⟨a, rfl, _⟩ := g1
  obtain ⟨b, rfl, _⟩ := g2
  obtain ⟨c, rfl, _⟩ := g3
  obtain ⟨d, rfl, _⟩ := g4
  obtain ⟨e, rfl, he⟩ := typed_ints' (by simpa only [Typed] using g5)
  obtain ⟨t, rfl, ht⟩ := typed_ints' (by simpa only [Typed] using g6)
  obtain ⟨s, rfl, _⟩ := g7
  obtain ⟨w, rfl, _⟩ := g8
  exact ⟨⟨⟨a, b, c, d, e, t, s, w⟩, ⟨he, ht⟩⟩, rfl⟩
theorem typed_code {ls : List Leaf} (h : Typed (.slice tIns) ls) : ∃ l : { l : List Ins // Fit l ∧ ∀ x, x ∈ l → x.Ok }, ls = [.isl (codeOf l.1)] := by
  unfold Typed at h
  obtain ⟨es, rfl, h1, h2⟩ := h
  obtain ⟨xs, rfl, hl⟩ := list_of' (f := fun x : { x : Ins // x.Ok } => encIns x.1) (es := es) fun x hx => typed_ins (h2 x hx)
  refine ⟨⟨xs.map (·.1), ?_, fun x hx => ?_⟩, by simp [codeOf, List.map_map]⟩
  · have := reach_fit' (xs := xs) (b := 32) (by omega) (by rw [hl]; exact h1)
    simpa [Fit] using this
  · obtain ⟨y, _, rfl⟩ := List.mem_map.1 hx; exact y.2
theorem typed_fn {v : V} (h : TypedV tFn v) : ∃ f : Fn, v = .agg (encFn f) ∧ f.Ok := by
  obtain ⟨ls, rfl, h⟩ := h
  simp only [TypedAll] at h
  obtain ⟨_, _, rfl, g1, _, _, rfl, g2, _, _, rfl, g3, _, _, rfl, g4, _, _, rfl, g5, rfl⟩ := h
  obtain ⟨nm, rfl⟩ := typed_str g1
  obtain ⟨ps, rfl, hps⟩ := typed_ints' g2
  obtain ⟨rt, rfl⟩ := typed_int g3
  unfold Typed at g4
  obtain ⟨es, rfl, h1, h2⟩ := g4
  obtain ⟨w, rfl⟩ := typed_int g5
  obtain ⟨bs, rfl, hl⟩ := list_of' (f := fun l : { l : List Ins // Fit l ∧ ∀ x, x ∈ l → x.Ok } => [Leaf.isl (codeOf l.1)]) (es := es) fun x hx => typed_code (h2 x hx)
  refine ⟨⟨nm, ps, rt, bs.map (·.1), w⟩, by simp [encFn, blksOf, List.map_map, Function.comp_def], ⟨hps, ?_, fun l hl => ?_, fun l hl => ?_⟩⟩
  · have := reach_fit' (xs := bs) (b := 24) (by omega) (by rw [hl]; exact h1)
    simpa [Fit] using this
  · obtain ⟨y, _, rfl⟩ := List.mem_map.1 hl; exact y.2.1
  · obtain ⟨y, _, rfl⟩ := List.mem_map.1 hl; exact y.2.2
end Go.Proofs.YtdkknhpdjcdmfaaGreat.Abs

/- The loops of a function: their heads, from where they are gone back to, their blocks. -/
set_option linter.unusedSimpArgs false
set_option linter.unusedVariables false
namespace Go.Proofs.YtdkknhpdjcdmfaaGreat.Abs
open Go Go.RowKit Go.Proofs

def ofS (h : Heap) (v21 v20 v5 v26 v25 v24 v6 : V) (o7 : Option (List Int)) (v3 v80 v79 : V) (ls : List Lp) : St :=
  ⟨[(21, v21), (20, v20), (5, v5), (26, v26), (25, v25), (24, v24), (6, v6), (7, slV h.length o7), (3, v3), (11, .junk), (54, .junk), (53, .junk), (10, .junk), (4, .one (.sl (h.length + 2) 4 ls.length 0 ls.length)), (80, v80), (79, v79),
    (1026, .junk), (1025, .junk), (1024, .junk), (1006, .junk), (1007, .junk), (1010, .junk), (1011, .junk), (1054, .junk), (1053, .junk), (1021, .junk), (1020, .junk), (1005, .junk), (1003, .junk)],
   h ++ [slO o7, none, some (.row 4 (lpsOf ls))], []⟩
def ofB (h : Heap) (v21 v20 v5 v26 v25 v24 : V) (hd : Int) (fr : List Int) (v3 : V) (met : List Bool) (k : Nat) (bl : List Int) (ls : List Lp) : St :=
  ⟨[(21, v21), (20, v20), (5, v5), (26, v26), (25, v25), (24, v24), (6, I hd), (7, .one (.sl h.length 1 fr.length 0 fr.length)), (3, v3), (11, Sl (boolsOf met)), (54, I (k : Nat)), (53, I (met.length : Nat)), (10, .one (.ptr (h.length + 1) 1 0 0)), (4, .one (.sl (h.length + 3) 4 ls.length 0 ls.length)), (80, .junk), (79, .junk),
    (1026, .junk), (1025, .junk), (1024, .junk), (1006, .junk), (1007, .junk), (1010, .junk), (1011, .junk), (1054, .junk), (1053, .junk), (1021, .junk), (1020, .junk), (1005, .junk), (1003, .junk)],
   h ++ [some (.row 1 (intsOf fr)), some (.row 4 [[.int .i64 hd, .sl (h.length + 2) 1 bl.length 0 bl.length, .sl h.length 1 fr.length 0 fr.length, .int .i64 (-1)]]), some (.row 1 (intsOf bl)), some (.row 4 (lpsOf ls))], []⟩

theorem of_1 (h : Heap) (v21 v20 v3 : V) (hv : ∃ a b : Int, v21 = I a ∧ v20 = I b) (prs : List (List Int)) (hv3 : v3 = Sl (listsOf prs)) (hd : Int) (es : List (Int × Int)) (hes : es.length ≤ 100000) (ls : List Lp) :
    lpK 39 Tryz.f39 92 1 h (ofS h v21 v20 (Sl (pairsOf es)) (I (0 : Nat)) (I (es.length : Nat)) (Sl (pairsOf es)) (I hd) (some []) v3 .junk .junk ls) =
      some (.exit 2, ofS h v21 v20 (Sl (pairsOf es)) (I (es.length : Nat)) (I (es.length : Nat)) (Sl (pairsOf es)) (I hd) (some (backsOf hd es)) v3 .junk .junk ls) := by
  obtain ⟨a, b, rfl, rfl⟩ := hv
  subst hv3
  refine loop_list (P := Tryz.prog) (C := cfg) (sc := runScope Tryz.prog cfg 92 h.length (cfg.live 39) 0) (N := 92) (n0 := h.length) (K := cfg.live 39) (c := loopAt Tryz.f39 1) es (addB hd)
    (fun j acc => ofS h (I a) (I b) (Sl (pairsOf es)) (I (j : Nat)) (I (es.length : Nat)) (Sl (pairsOf es)) (I hd) (some acc) (Sl (listsOf prs)) .junk .junk ls)
    (fun acc => (.exit 2, ofS h (I a) (I b) (Sl (pairsOf es)) (I (es.length : Nat)) (I (es.length : Nat)) (Sl (pairsOf es)) (I hd) (some acc) (Sl (listsOf prs)) .junk .junk ls)) (fun j acc => acc.length ≤ j) ?_ ?_ [] (by simp)
  · intro j acc e he hl
    have hj := (List.getElem?_eq_some_iff.1 he).1
    have hjI : ((j : Nat) : Int) < ((es.length : Nat) : Int) := by omega
    refine ⟨?_, by have := addB_len hd acc e; omega⟩
    obtain ⟨e1, e2⟩ := e
    by_cases hh : e2 = hd
    · have ha : addB hd acc (e1, e2) = acc ++ [e1] := by unfold addB; rw [if_pos hh]
      rw [ha]
      subst hh
      simp (disch := (first | omega | simp (disch := omega) [])) [round_eq, ofS, Tryz.f39, lv39, he, hj, hjI, room_of, intsOf_snoc, wrap_i64, -getElem?_pos]
    · have ha : addB hd acc (e1, e2) = acc := by unfold addB; rw [if_neg hh]
      rw [ha]
      have hhB : (e2 == hd) = false := by simp [hh]
      simp (disch := (first | omega | simp (disch := omega) [])) [round_eq, ofS, Tryz.f39, lv39, he, hj, hjI, hh, hhB, room_of, intsOf_snoc, wrap_i64, -getElem?_pos]
  · intro acc hl
    refine ⟨?_, nofun⟩
    simp (disch := (first | omega | simp (disch := omega) [])) [round_eq, ofS, Tryz.f39, lv39, -getElem?_pos]

def blkF (met : List Bool) (hd : Int) (k : Nat) : List Int := ((List.range k).filter fun j => met.getD j false || decide (((j : Nat) : Int) = hd)).map fun j => ((j : Nat) : Int)
theorem blkF_next (met : List Bool) (hd : Int) (k : Nat) : blkF met hd (k + 1) = if (met.getD k false || decide (((k : Nat) : Int) = hd)) = true then blkF met hd k ++ [(k : Int)] else blkF met hd k := by
  unfold blkF
  rw [List.range_succ, List.filter_append, List.map_append]
  cases hc : (met.getD k false || decide (((k : Nat) : Int) = hd)) with
  | true => rw [List.filter_cons_of_pos (by rw [hc]), List.filter_nil, if_pos rfl]; rfl
  | false => rw [List.filter_cons_of_neg (by rw [hc]; simp), List.filter_nil, if_neg (by simp)]; simp
theorem blkF_len (met : List Bool) (hd : Int) (k : Nat) : (blkF met hd k).length ≤ k := by
  unfold blkF
  rw [List.length_map]
  have := List.length_filter_le (fun j => met.getD j false || decide (((j : Nat) : Int) = hd)) (List.range k)
  simpa using this
theorem blkF_mem {met : List Bool} {hd : Int} {n k : Nat} : (k : Int) ∈ blkF met hd n ↔ k < n ∧ (Mt met k ∨ (k : Int) = hd) := by
  unfold blkF
  have gD : met.getD k false = true ↔ Mt met k := by
    unfold Mt
    rw [List.getD]
    cases met[k]? with
    | none => simp
    | some x => simp
  constructor
  · intro h
    obtain ⟨j, hj, e⟩ := List.mem_map.1 h
    obtain ⟨h1, h2⟩ := List.mem_filter.1 hj
    obtain rfl : j = k := by omega
    rw [Bool.or_eq_true, gD, decide_eq_true_iff] at h2
    exact ⟨by simpa using h1, h2⟩
  · rintro ⟨h1, h2⟩
    refine List.mem_map.2 ⟨k, List.mem_filter.2 ⟨by simpa using h1, ?_⟩, rfl⟩
    rw [Bool.or_eq_true, gD, decide_eq_true_iff]
    exact h2
theorem of_2 (h : Heap) (a b c d : Int) (es es' : List (Int × Int)) (hd : Int) (fr : List Int) (prs : List (List Int)) (met : List Bool) (hm : met.length ≤ 1000) (ls : List Lp) :
    lpK 39 Tryz.f39 92 2 h (ofB h (I a) (I b) (Sl (pairsOf es)) (I c) (I d) (Sl (pairsOf es')) hd fr (Sl (listsOf prs)) met 0 [] ls) =
      some (.exit 4, ofB h (I a) (I b) (Sl (pairsOf es)) (I c) (I d) (Sl (pairsOf es')) hd fr (Sl (listsOf prs)) met met.length (blkF met hd met.length) ls) := by
  have key := loop_fun (P := Tryz.prog) (C := cfg) (sc := runScope Tryz.prog cfg 92 h.length (cfg.live 39) 0) (N := 92) (n0 := h.length) (K := cfg.live 39) (c := loopAt Tryz.f39 2)
    (fun k : Nat => ofB h (I a) (I b) (Sl (pairsOf es)) (I c) (I d) (Sl (pairsOf es')) hd fr (Sl (listsOf prs)) met k (blkF met hd k) ls) (fun k => k ≤ met.length) (fun k => met.length - k)
    (fun _ => (.exit 4, ofB h (I a) (I b) (Sl (pairsOf es)) (I c) (I d) (Sl (pairsOf es')) hd fr (Sl (listsOf prs)) met met.length (blkF met hd met.length) ls)) ?_ 0 (Nat.zero_le _)
  · exact key
  intro k hk
  have hbl := blkF_len met hd k
  rcases Nat.lt_or_ge k met.length with hlt | hge
  · have hltI : ((k : Nat) : Int) < ((met.length : Nat) : Int) := by omega
    obtain ⟨x, hx⟩ : ∃ x, met[k]? = some x := ⟨_, List.getElem?_eq_getElem hlt⟩
    have hxD : met.getD k false = x := by rw [List.getD, hx]; rfl
    refine .inl ⟨k + 1, ?_, hlt, by omega, rfl⟩
    rw [blkF_next, hxD]
    generalize blkF met hd k = bl at hbl ⊢
    cases x with
    | true =>
      rw [if_pos (by simp)]
      simp (disch := (first | omega | simp (disch := omega) [])) [round_eq, ofB, Tryz.f39, lv39, hx, hlt, hltI, room_of, intsOf_snoc, wrap_i64, -getElem?_pos]
    | false =>
      by_cases hh : ((k : Nat) : Int) = hd
      · rw [if_pos (by simp [hh])]
        subst hh
        simp (disch := (first | omega | simp (disch := omega) [])) [round_eq, ofB, Tryz.f39, lv39, hx, hlt, hltI, room_of, intsOf_snoc, wrap_i64, -getElem?_pos]
      · rw [if_neg (by simp [hh])]
        have hhB : (((k : Nat) : Int) == hd) = false := by simp [hh]
        simp (disch := (first | omega | simp (disch := omega) [])) [round_eq, ofB, Tryz.f39, lv39, hx, hlt, hltI, hhB, hh, room_of, intsOf_snoc, wrap_i64, -getElem?_pos]
  · have : k = met.length := by omega
    subst this
    refine .inr ⟨?_, nofun⟩
    simp (disch := (first | omega | simp (disch := omega) [])) [round_eq, ofB, Tryz.f39, lv39, -getElem?_pos]
end Go.Proofs.YtdkknhpdjcdmfaaGreat.Abs

/- The loops of a function, head by head. -/
set_option linter.unusedSimpArgs false
set_option linter.unusedVariables false
set_option linter.unusedSectionVars false
namespace Go.Proofs.YtdkknhpdjcdmfaaGreat.Abs
open Go Go.RowKit Go.Proofs

theorem blkF_R {ss : List (List Int)} {hd : Nat} {met : List Bool} (hmt : ∀ v, Mt met v ↔ Rch (predsF ss) (bkN ss hd ss.length) (hd : Int) v) (n : Nat) : blkF met (hd : Int) n = blkR ss hd n := by
  unfold blkF blkR
  congr 1
  apply List.filter_congr
  intro j _
  have gD : met.getD j false = true ↔ Mt met j := by
    unfold Mt
    rw [List.getD]
    cases met[j]? with
    | none => simp
    | some x => simp
  rw [Bool.eq_iff_iff, Bool.or_eq_true, gD, decide_eq_true_iff, inB_iff, hmt]
  rfl
section
variable {ss : List (List Int)} (hs : Edges ss) (hnd : ∀ l, l ∈ ss → l.Nodup) (hn0 : 0 < ss.length) (hn : ss.length ≤ 12)
include hs hnd hn0 hn
theorem of_0 (h : Heap) :
    lpK 39 Tryz.f39 92 0 h (ofS h (I (0 : Nat)) (I (ss.length : Nat)) (Sl (pairsOf (hdsN ss ss.length))) .junk .junk .junk .junk none (Sl (listsOf (predsF ss))) .junk .junk []) =
      some (.exit 0, ofS h (I (ss.length : Nat)) (I (ss.length : Nat)) (Sl (pairsOf (hdsN ss ss.length))) .junk .junk .junk .junk none (Sl (listsOf (predsF ss))) .junk .junk (lpsN ss ss.length)) := by
  have hel := hdsN_len hs ss.length (Nat.le_refl _)
  have hbk := fun i => backs_hds hnd i ss.length
  generalize hdsN ss ss.length = es at *
  have key := loop_fun (P := Tryz.prog) (C := cfg) (sc := runScope Tryz.prog cfg 92 h.length (cfg.live 39) 0) (N := 92) (n0 := h.length) (K := cfg.live 39) (c := loopAt Tryz.f39 0)
    (fun i : Nat => ofS h (I (i : Nat)) (I (ss.length : Nat)) (Sl (pairsOf es)) .junk .junk .junk .junk none (Sl (listsOf (predsF ss))) .junk .junk (lpsN ss i)) (fun i => i ≤ ss.length) (fun i => ss.length - i)
    (fun _ => (.exit 0, ofS h (I (ss.length : Nat)) (I (ss.length : Nat)) (Sl (pairsOf es)) .junk .junk .junk .junk none (Sl (listsOf (predsF ss))) .junk .junk (lpsN ss ss.length))) ?_ 0 (Nat.zero_le _)
  · exact key
  intro i j1
  have j2 := lpsN_ok hs (by omega) i j1
  have hll := j2.len
  rcases Nat.lt_or_ge i ss.length with hlt | hge
  · have hltI : ((i : Nat) : Int) < ((ss.length : Nat) : Int) := by omega
    refine .inl ⟨i + 1, ?_, hlt, by omega, rfl⟩
    rw [lpsN]
    generalize lpsN ss i = ls at *
    have e1 := of_1 h (I (i : Nat)) (I (ss.length : Nat)) (Sl (listsOf (predsF ss))) ⟨_, _, rfl, rfl⟩ (predsF ss) rfl (i : Int) es (by omega) ls
    have hfl := bkN_len ss i ss.length
    rw [hbk i] at e1
    by_cases hf0 : bkN ss i ss.length = []
    · rw [if_pos hf0]
      rw [hf0] at e1
      simp [ofS, lpK, lv39, Tryz.f39] at e1
      simp (disch := (first | omega | simp (disch := omega) [])) [round_eq, ofS, Tryz.f39, lv39, hlt, hltI, e1, wrap_i64, -getElem?_pos]
    · rw [if_neg hf0]
      have hfp := List.length_pos_iff.2 hf0
      have hfB : ((((bkN ss i ss.length).length : Nat) : Int) == 0) = false := by rw [beq_eq_false_iff_ne]; omega
      have hprow : ∀ l, l ∈ predsF ss → l.length ≤ 100000 ∧ ∀ x, x ∈ l → 0 ≤ x ∧ x < (predsF ss).length := fun l hl => by
        have h1 := preds_len hs l hl
        refine ⟨by omega, fun x hx => ?_⟩
        rw [predsF_len]
        exact preds_row hs hl x hx
      have hbl : ∀ x, x ∈ bkN ss i ss.length → 0 ≤ x ∧ x < (predsF ss).length := fun x hx => by
        rw [predsF_len]
        obtain ⟨k, rfl, hk, _⟩ := (bkN_mem _).1 hx
        omega
      obtain ⟨met, m1, m2, e2⟩ := reached (h ++ [some (.row 1 (intsOf (bkN ss i ss.length))), none, some (.row 4 (lpsOf ls)), some (.row 4 [[.int .i64 (i : Int), .nils, .sl h.length 1 (bkN ss i ss.length).length 0 (bkN ss i ss.length).length, .int .i64 (-1)]])]) h.length (predsF ss) (i : Int) (bkN ss i ss.length) (by simp) (by omega) (by rw [predsF_len]; omega) hbl hprow
      rw [predsF_len] at m1
      have e3 := of_2 h (i : Int) (ss.length : Int) (es.length : Int) (es.length : Int) es es (i : Int) (bkN ss i ss.length) (predsF ss) met (by omega) ls
      rw [blkF_R m2] at e3
      have hbl2 := blkR_len ss i met.length
      unfold lpF
      rw [← m1] at hfl hfp hfB hbl e1 e2 e3 ⊢
      generalize bkN ss i met.length = fr at *
      generalize blkR ss i met.length = bl at *
      have hsn : lpsOf ls ++ [[Leaf.int .i64 (i : Int), .isl (intsOf bl), .isl (intsOf fr), .int .i64 (-1)]] = lpsOf (ls ++ [⟨(i : Int), bl, fr, -1⟩]) := lpsOf_snoc ls ⟨(i : Int), bl, fr, -1⟩
      simp [ofS, lpK, lv39, Tryz.f39] at e1
      simp [ofB, lpK, lv39, Tryz.f39] at e3
      have hltI' : ((i : Nat) : Int) < ((met.length : Nat) : Int) := by omega
      have hlt' : i < met.length := by omega
      simp (disch := (first | omega | simp (disch := omega) [])) [round_eq, ofS, Tryz.f39, lv39, hlt', hltI', e1, e2, e3, hfB, hfp, hsn, room_of, wrap_i64, -getElem?_pos]
  · have : i = ss.length := by omega
    subst this
    refine .inr ⟨?_, nofun⟩
    generalize lpsN ss ss.length = ls at *
    simp (disch := (first | omega | simp (disch := omega) [])) [round_eq, ofS, Tryz.f39, lv39, -getElem?_pos]
end
end Go.Proofs.YtdkknhpdjcdmfaaGreat.Abs

/- The loops of a function. -/
set_option linter.unusedSimpArgs false
set_option linter.unusedVariables false
namespace Go.Proofs.YtdkknhpdjcdmfaaGreat.Abs
open Go Go.RowKit Go.Proofs

theorem of_3 (h : Heap) {ss : List (List Int)} (n : Nat) (hn : n ≤ 1000) (ls : List Lp) (hl : LsOK ss n ls) :
    lpK 39 Tryz.f39 92 3 h (ofS h .junk .junk .junk .junk .junk .junk .junk none .junk (I (0 : Nat)) (I (ls.length : Nat)) ls) =
      some (.exit 6, ofS h .junk .junk .junk .junk .junk .junk .junk none .junk (I (ls.length : Nat)) (I (ls.length : Nat)) (finF ls)) := by
  have hlen := hl.len
  have key := loop_fun (P := Tryz.prog) (C := cfg) (sc := runScope Tryz.prog cfg 92 h.length (cfg.live 39) 0) (N := 92) (n0 := h.length) (K := cfg.live 39) (c := loopAt Tryz.f39 3)
    (fun k : Nat => ofS h .junk .junk .junk .junk .junk .junk .junk none .junk (I (k : Nat)) (I (ls.length : Nat)) (midF ls k)) (fun k => k ≤ ls.length) (fun k => ls.length - k)
    (fun _ => (.exit 6, ofS h .junk .junk .junk .junk .junk .junk .junk none .junk (I (ls.length : Nat)) (I (ls.length : Nat)) (finF ls))) ?_ 0 (Nat.zero_le _)
  · have h0 := midF_zero ls
    simp only [h0] at key
    exact key
  intro k j1
  rcases Nat.lt_or_ge k ls.length with hlt | hge
  · have hltI : ((k : Nat) : Int) < ((ls.length : Nat) : Int) := by omega
    obtain ⟨x, hx⟩ : ∃ x, ls[k]? = some x := ⟨_, List.getElem?_eq_getElem hlt⟩
    have hmx : (midF ls k)[k]? = some x := by rw [midF_get, hx]; simp
    have hmb : ∀ y, y ∈ midF ls k → y.blocks.length ≤ 100000 := fun y hy => by
      obtain ⟨j, hj⟩ := List.getElem?_of_mem hy
      rw [midF_get] at hj
      obtain ⟨z, hz, rfl⟩ := Option.map_eq_some_iff.1 hj
      have := (hl.each z (List.mem_of_getElem? hz)).2.1
      split <;> (show z.blocks.length ≤ _; omega)
    have e := within [] (midF ls k) (by simp; omega) hmb k (by simpa using hlt)
    rw [midF_core, midF_length] at e
    have hnx := midF_next hx
    have hset : (lpsOf (midF ls k)).set k [.int .i64 x.head, .isl (intsOf x.blocks), .isl (intsOf x.backs), .int .i64 (wiN (coreOf ls) k ls.length)] = lpsOf (midF ls (k + 1)) := by
      rw [← hnx]; exact lpsOf_set (midF ls k) k ⟨x.head, x.blocks, x.backs, wiN (coreOf ls) k ls.length⟩
    have hml := midF_length ls k
    have hml2 := midF_length ls (k + 1)
    refine .inl ⟨k + 1, ?_, hlt, by omega, rfl⟩
    generalize midF ls (k + 1) = ls2 at *
    generalize midF ls k = ls1 at *
    generalize wiN (coreOf ls) k ls.length = r at *
    simp (disch := (first | omega | simp (disch := omega) [])) [round_eq, ofS, encLp, Tryz.f39, lv39, hmx, hlt, hltI, hml, hml2, e, hset, wrap_i64, -getElem?_pos]
  · have : k = ls.length := by omega
    subst this
    refine .inr ⟨?_, nofun⟩
    rw [midF_all]
    have hml := finF_length ls
    generalize finF ls = ls1 at *
    simp (disch := (first | omega | simp (disch := omega) [])) [round_eq, ofS, Tryz.f39, lv39, hml, -getElem?_pos]

theorem nextB_nodup (l : List Ins) : (nextB l).Nodup := by
  have key : ∀ (xs out : List Int), out.Nodup → (xs.foldl addU out).Nodup := by
    intro xs
    induction xs with
    | nil => intro out h; exact h
    | cons x xs ih =>
      intro out h
      rw [List.foldl_cons]
      refine ih _ ?_
      unfold addU
      split
      · exact h
      · rename_i hc
        refine List.nodup_append.2 ⟨h, by simp, fun a ha b hb e => ?_⟩
        rw [List.mem_singleton.1 hb] at e
        subst e
        exact hc (by simpa using ha)
  exact key _ [] List.nodup_nil

noncomputable def loopsF (ss : List (List Int)) : List Lp := finF (lpsN ss ss.length)
theorem loopsF_ok {ss : List (List Int)} (hs : Edges ss) : LsOK ss ss.length (loopsF ss) := finF_ok (lpsN_ok hs hs.len _ (Nat.le_refl _))
theorem loopsOf' (h : Heap) (f : Fn) (hf : f.Fine) (hn : 0 < f.blocks.length) (hn2 : f.blocks.length ≤ 12) :
    CX 39 [.agg (encFn f)] h = some (Sl (lpsOf (loopsF (f.blocks.map nextB))), h, []) := by
  have hsl : (f.blocks.map nextB).length = f.blocks.length := by simp
  have hnd : ∀ l, l ∈ f.blocks.map nextB → l.Nodup := fun l hl => by
    obtain ⟨b, _, rfl⟩ := List.mem_map.1 hl
    exact nextB_nodup b
  have e1 := fun h => preds h f hf
  have e2 := heads (h ++ [some (.row 5 [encFn f])]) f hf hn hn2
  have e3 := of_0 hf.edges hnd (by omega) (by omega) h
  have e4 := of_3 h (f.blocks.map nextB).length (by omega) (lpsN (f.blocks.map nextB) (f.blocks.map nextB).length) (lpsN_ok hf.edges hf.edges.len _ (Nat.le_refl _))
  unfold loopsF
  rw [hsl] at e3 e4 ⊢
  have hfl := finF_length (lpsN (f.blocks.map nextB) f.blocks.length)
  refine CI_of Tryz.func39 rfl 0 ?_
  have hk : cfg.keep 39 = 0 := rfl
  generalize finF (lpsN (f.blocks.map nextB) f.blocks.length) = ls2 at *
  generalize lpsN (f.blocks.map nextB) f.blocks.length = ls1 at *
  generalize hdsN (f.blocks.map nextB) f.blocks.length = es at *
  simp [encFn] at e1 e2
  simp [ofS, lpK, lv39, Tryz.f39] at e3 e4
  simp (disch := (first | omega | simp (disch := omega) [])) [Tryz.f39, lv39, hk, encFn, e1, e2, e3, e4, hfl, -getElem?_pos]
theorem loopsOf (h : Heap) (f : Fn) (hf : f.Fine) (hn : 0 < f.blocks.length) (hn2 : f.blocks.length ≤ 12) :
    ∃ ls, LsOK (f.blocks.map nextB) (f.blocks.map nextB).length ls ∧ CX 39 [.agg (encFn f)] h = some (Sl (lpsOf ls), h, []) :=
  ⟨_, loopsF_ok hf.edges, loopsOf' h f hf hn hn2⟩
end Go.Proofs.YtdkknhpdjcdmfaaGreat.Abs
