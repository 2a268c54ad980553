/- YtkbdhjfjbkmkcaaGreatJT44: texts that follow each other, as one. -/
import Derived.Test.YtkbdhjfjbkmkcaaGreatJT43
import Derived.Test.YtkbdhjfjbkmkcaaGreatJT26
/- Which blocks are reached from the first one, not by way of one, as the document tells it. -/
set_option linter.unusedSimpArgs false
set_option linter.unusedVariables false
namespace Go.Proofs.YtkbdhjfjbkmkcaaGreat.Abs
open Go Go.RowKit Go.Proofs

def metOf (n : Nat) (l : List Int) : List Bool := (List.range n).map fun v => l.contains ((v : Nat) : Int)
@[simp] theorem metOf_length (n : Nat) (l : List Int) : (metOf n l).length = n := by simp [metOf]
theorem metOf_mt {n : Nat} {l : List Int} {v : Nat} : Mt (metOf n l) v ↔ v < n ∧ (v : Int) ∈ l := by
  unfold Mt metOf
  rw [List.getElem?_map]
  rcases Nat.lt_or_ge v n with h | h
  · rw [List.getElem?_range h]; simp [h]
  · rw [List.getElem?_eq_none (by simpa using h)]; simp; omega
theorem metOf_snoc {n : Nat} {l : List Int} {b : Int} (hb : 0 ≤ b) : metOf n (l ++ [b]) = (metOf n l).set b.toNat true := by
  apply List.ext_getElem?
  intro v
  rw [List.getElem?_set]
  unfold metOf
  simp only [List.getElem?_map, List.length_map, List.length_range]
  rcases Nat.lt_or_ge v n with h | h
  · rw [List.getElem?_range h]
    by_cases e : b.toNat = v
    · rw [if_pos e, if_pos (by omega)]
      simp; right; omega
    · rw [if_neg e]
      simp
      intro hv; omega
  · rw [List.getElem?_eq_none (by simpa using h)]
    split
    · rw [if_neg (by omega)]; rfl
    · rfl
theorem metOf_next (l : List Int) (k : Nat) : metOf k l ++ [l.contains ((k : Nat) : Int)] = metOf (k + 1) l := by
  simp [metOf, List.range_succ]

def blV (id : Nat) : Option (List Bool) → V
  | none => .junk
  | some l => .one (.sl id 1 l.length 0 l.length)
def blO : Option (List Bool) → Option AO
  | none => none
  | some l => some (.row 1 (boolsOf l))
@[simp] theorem blV_none (id : Nat) : blV id none = .junk := rfl
@[simp] theorem blV_some (id : Nat) (l : List Bool) : blV id (some l) = .one (.sl id 1 l.length 0 l.length) := rfl
@[simp] theorem blO_none : blO none = none := rfl
@[simp] theorem blO_some (l : List Bool) : blO (some l) = some (.row 1 (boolsOf l)) := rfl
@[simp] theorem boolsOf_nil : boolsOf [] = [] := rfl
theorem boolsOf_snoc (bs : List Bool) (b : Bool) : boolsOf bs ++ [[.bool b]] = boolsOf (bs ++ [b]) := by simp [boolsOf]

def m9S (h : Heap) (f : Fn) (ss : List (List Int)) (but : Int) (l : List Int) (v8 v9 v1 v12 : V) (o11 : Option (List Bool)) : St :=
  ⟨[(2, I but), (7, .one (.sl h.length 1 l.length 0 l.length)), (8, v8), (9, v9), (1, v1), (12, v12), (3, .one (.ptr (h.length + 1) 1 0 0)), (11, blV (h.length + 2) o11), (1009, .junk), (1008, .junk)],
   h ++ [some (.row 1 (intsOf l)), some (.row 5 [encFn f]), blO o11], []⟩

section
variable (h : Heap) (f : Fn) (ss : List (List Int)) (but : Int) (hE : ss.length ≤ 1000) (hEl : ∀ l, l ∈ ss → l.length ≤ 100000 ∧ ∀ x, x ∈ l → 0 ≤ x ∧ x < ss.length)
include hE hEl

theorem m9_in (i : Nat) (es : List Int) (k : Nat) (hk : ss[k]? = some es) (hRk : Rch ss [0] but k) (l : List Int) (hlk : l[i]? = some (k : Int))
    (g1 : RI ss.length ss [0] but (metOf ss.length l) (fun v => v = k ∨ (v : Int) ∈ l.drop (i + 1))) (g3 : OpOK ss [0] but l) (g4 : l.length + unmet (metOf ss.length l) ≤ ss.length) :
    ∃ l', i < l'.length ∧ RI ss.length ss [0] but (metOf ss.length l') (fun v => (v : Int) ∈ l'.drop (i + 1)) ∧ OpOK ss [0] but l' ∧ l'.length + unmet (metOf ss.length l') ≤ ss.length ∧ (∀ x, x ∈ l → x ∈ l') ∧
    lpK 83 Tryz.f83 73 1 h (m9S h f ss but l (I (i : Nat)) (I (0 : Nat)) (Sl (listsOf ss)) .junk none) = some (.exit 2, m9S h f ss but l' (I (i : Nat)) (I (es.length : Nat)) (Sl (listsOf ss)) .junk none) := by
  obtain ⟨hes, heb⟩ := hEl es (List.mem_of_getElem? hk)
  have hgd : ss.getD k [] = es := by rw [List.getD, hk]; rfl
  have hkl := (List.getElem?_eq_some_iff.1 hk).1
  have key := loop_rel (P := Tryz.prog) (C := cfg) (sc := runScope Tryz.prog cfg 73 h.length (cfg.live 83) 0) (N := 73) (n0 := h.length) (K := cfg.live 83) (c := loopAt Tryz.f83 1)
    (fun s : Nat × List Int => m9S h f ss but s.2 (I (i : Nat)) (I (s.1 : Nat)) (Sl (listsOf ss)) .junk none)
    (fun s => s.1 ≤ es.length ∧ s.2[i]? = some (k : Int) ∧ RI ss.length ss [0] but (metOf ss.length s.2) (fun v => v = k ∨ (v : Int) ∈ s.2.drop (i + 1)) ∧ OpOK ss [0] but s.2 ∧ s.2.length + unmet (metOf ss.length s.2) ≤ ss.length ∧ (∀ (t : Nat) w, es[t]? = some w → t < s.1 → w ≠ but → Mt (metOf ss.length s.2) w.toNat) ∧ ∀ x, x ∈ l → x ∈ s.2) (fun s => es.length - s.1)
    (fun s r => ∃ l', i < l'.length ∧ RI ss.length ss [0] but (metOf ss.length l') (fun v => (v : Int) ∈ l'.drop (i + 1)) ∧ OpOK ss [0] but l' ∧ l'.length + unmet (metOf ss.length l') ≤ ss.length ∧ (∀ x, x ∈ l → x ∈ l') ∧
      r = (.exit 2, m9S h f ss but l' (I (i : Nat)) (I (es.length : Nat)) (Sl (listsOf ss)) .junk none)) ?_ (0, l) ⟨Nat.zero_le _, hlk, g1, g3, g4, fun t w _ ht => by simp only at ht; omega, fun x hx => hx⟩
  · obtain ⟨r, h1, l', h2, h3, h4, h5, h6, rfl⟩ := key
    exact ⟨l', h2, h3, h4, h5, h6, h1⟩
  clear g1 g3 g4
  rintro ⟨p, m⟩ ⟨j1, j2, j3, j4, j5, j6, j7⟩
  simp only at j1 j2 j3 j4 j5 j6 j7 ⊢
  have hil := (List.getElem?_eq_some_iff.1 j2).1
  have hmf : Fit m := by show m.length ≤ _; omega
  rcases Nat.lt_or_ge p es.length with hlt | hge
  · have hltI : ((p : Nat) : Int) < ((es.length : Nat) : Int) := by omega
    obtain ⟨x, hx⟩ : ∃ x, es[p]? = some x := ⟨_, List.getElem?_eq_getElem hlt⟩
    have hxm := List.mem_of_getElem? hx
    obtain ⟨x0, xl⟩ := heb x hxm
    have xln : x.toNat < ss.length := by omega
    by_cases hb : x = but
    · have hbI : (x != but) = false := by simp [hb]
      refine .inl ⟨(p + 1, m), ?_, ⟨hlt, j2, j3, j4, j5, fun t w hw ht hn => ?_, j7⟩, by simp only; omega, fun r h => h⟩
      · simp (disch := omega) [round_eq, m9S, encFn, Tryz.f83, lv83, j2, hil, hk, hkl, hx, hlt, hltI, hbI, hb, wrap_i64, -getElem?_pos]
      · rcases Nat.lt_or_ge t p with hji | hji
        · exact j6 t w hw hji hn
        · have : t = p := by simp only at ht; omega
          subst this
          rw [hx] at hw; cases hw
          exact absurd hb hn
    · have hbI : (x != but) = true := by simp [hb]
      by_cases hc : m.contains x = true
      · refine .inl ⟨(p + 1, m), ?_, ⟨hlt, j2, j3, j4, j5, fun t w hw ht hn => ?_, j7⟩, by simp only; omega, fun r h => h⟩
        · simp (disch := omega) [round_eq, m9S, encFn, Tryz.f83, lv83, j2, hil, hk, hkl, hx, hlt, hltI, hbI, has _ m hmf, hc, wrap_i64, -getElem?_pos, -List.contains_eq_mem]
        · rcases Nat.lt_or_ge t p with hji | hji
          · exact j6 t w hw hji hn
          · have : t = p := by simp only at ht; omega
            subst this
            rw [hx] at hw; cases hw
            refine metOf_mt.2 ⟨xln, ?_⟩
            rw [Int.toNat_of_nonneg x0]
            simpa using hc
      · have hc' : m.contains x = false := by simpa using hc
        have hxn : x ∉ m := by simpa using hc
        have hnm : ¬ Mt (metOf ss.length m) x.toNat := fun h' => by
          have := (metOf_mt.1 h').2
          rw [Int.toNat_of_nonneg x0] at this
          exact hxn this
        have hun := unmet_set' (met := metOf ss.length m) (by simpa using xln) hnm
        have hrx : Rch ss [0] but x.toNat := .step hRk (by rw [Int.toNat_of_nonneg x0, hgd]; exact hxm) (by rw [Int.toNat_of_nonneg x0]; exact hb)
        have hset := j3.set xln hrx
        rw [← metOf_snoc x0] at hset hun
        have hmt : ∀ v, Mt (metOf ss.length m) v → Mt (metOf ss.length (m ++ [x])) v := fun v hv => by
          rw [metOf_mt] at hv ⊢; exact ⟨hv.1, by simp [hv.2]⟩
        have hdrop : (m ++ [x]).drop (i + 1) = m.drop (i + 1) ++ [x] := List.drop_append_of_le_length (by omega)
        refine .inl ⟨(p + 1, m ++ [x]), ?_, ⟨hlt, ?_, hset.mono fun v hv => .inl ?_, fun z hz => ?_, ?_, fun t w hw ht hn => ?_, fun z hz => by simp [j7 z hz]⟩, by simp only; omega, fun r h => h⟩
        · simp (disch := omega) [round_eq, m9S, encFn, Tryz.f83, lv83, j2, hil, hk, hkl, hx, hlt, hltI, hbI, has _ m hmf, hc', room_of, intsOf_snoc, wrap_i64, -getElem?_pos, -List.contains_eq_mem]
        · simp only; rw [List.getElem?_append_left hil]; exact j2
        · rcases hv with (hv | hv) | rfl
          · exact .inl hv
          · exact .inr (by rw [hdrop]; simp [hv])
          · exact .inr (by rw [hdrop]; simp; right; omega)
        · rcases List.mem_append.1 hz with hz | hz
          · exact j4 z hz
          · rw [List.mem_singleton.1 hz]; exact ⟨x0, xl, hrx⟩
        · simp only [List.length_append, List.length_cons, List.length_nil]; omega
        · rcases Nat.lt_or_ge t p with hji | hji
          · exact hmt _ (j6 t w hw hji hn)
          · have : t = p := by simp only at ht; omega
            subst this
            rw [hx] at hw; cases hw
            refine metOf_mt.2 ⟨xln, ?_⟩
            rw [Int.toNat_of_nonneg x0]
            simp
  · have : p = es.length := by omega
    subst this
    refine .inr ⟨(.exit 2, m9S h f ss but m (I (i : Nat)) (I (es.length : Nat)) (Sl (listsOf ss)) .junk none), ?_, nofun, m, hil, j3.mono fun v hv => ?_, j4, j5, j7, rfl⟩
    · simp (disch := omega) [round_eq, m9S, encFn, Tryz.f83, lv83, j2, hil, hk, hkl, -getElem?_pos]
    · rcases hv with hv | hv
      · subst hv
        refine .inr fun w hw hn => ?_
        rw [hgd] at hw
        obtain ⟨t, ht⟩ := List.getElem?_of_mem hw
        exact j6 t w ht (List.getElem?_eq_some_iff.1 ht).1 hn
      · exact .inl hv

theorem m9_out (l : List Int) (g1 : RI ss.length ss [0] but (metOf ss.length l) (fun v => (v : Int) ∈ l)) (g2 : ∀ x, x ∈ [(0 : Int)] → x ≠ but → x ∈ l) (g3 : OpOK ss [0] but l) (g4 : l.length + unmet (metOf ss.length l) ≤ ss.length) :
    ∃ l', (∀ v, Mt (metOf ss.length l') v ↔ Rch ss [0] but v) ∧ l'.length ≤ ss.length ∧
    lpK 83 Tryz.f83 73 0 h (m9S h f ss but l (I (0 : Nat)) .junk (Sl (listsOf ss)) .junk none) = some (.exit 0, m9S h f ss but l' (I (l'.length : Nat)) .junk (Sl (listsOf ss)) .junk none) := by
  have key := loop_rel (P := Tryz.prog) (C := cfg) (sc := runScope Tryz.prog cfg 73 h.length (cfg.live 83) 0) (N := 73) (n0 := h.length) (K := cfg.live 83) (c := loopAt Tryz.f83 0)
    (fun s : Nat × List Int => m9S h f ss but s.2 (I (s.1 : Nat)) .junk (Sl (listsOf ss)) .junk none)
    (fun s => s.1 ≤ s.2.length ∧ RI ss.length ss [0] but (metOf ss.length s.2) (fun v => (v : Int) ∈ s.2.drop s.1) ∧ (∀ x, x ∈ [(0 : Int)] → x ≠ but → x ∈ s.2) ∧ OpOK ss [0] but s.2 ∧ s.2.length + unmet (metOf ss.length s.2) ≤ ss.length) (fun s => ss.length - s.1)
    (fun s r => ∃ l', (∀ v, Mt (metOf ss.length l') v ↔ Rch ss [0] but v) ∧ l'.length ≤ ss.length ∧ r = (.exit 0, m9S h f ss but l' (I (l'.length : Nat)) .junk (Sl (listsOf ss)) .junk none)) ?_ (0, l) ⟨Nat.zero_le _, g1, g2, g3, g4⟩
  · obtain ⟨r, h1, l', h2, h3, rfl⟩ := key
    exact ⟨l', h2, h3, h1⟩
  clear g1 g2 g3 g4 l
  rintro ⟨i, l⟩ ⟨j1, j2, j3, j4, j5⟩
  simp only at j1 j2 j3 j4 j5 ⊢
  rcases Nat.lt_or_ge i l.length with hlt | hge
  · have hltI : ((i : Nat) : Int) < ((l.length : Nat) : Int) := by omega
    obtain ⟨x, hx⟩ : ∃ x, l[i]? = some x := ⟨_, List.getElem?_eq_getElem hlt⟩
    obtain ⟨x0, xl, hrx⟩ := j4 x (List.mem_of_getElem? hx)
    obtain ⟨k, rfl⟩ : ∃ k : Nat, x = (k : Int) := ⟨x.toNat, by omega⟩
    rw [Int.toNat_natCast] at hrx
    have hkl : k < ss.length := by omega
    obtain ⟨es, hes⟩ : ∃ es, ss[k]? = some es := ⟨_, List.getElem?_eq_getElem hkl⟩
    have hesl := (hEl es (List.mem_of_getElem? hes)).1
    have hdr : l.drop i = (k : Int) :: l.drop (i + 1) := by
      rw [List.drop_eq_getElem_cons hlt]; rw [List.getElem?_eq_getElem hlt] at hx; injection hx with hx; rw [hx]
    obtain ⟨l', k1, k2, k3, k4, k5, e⟩ := m9_in h f ss but hE hEl i es k hes hrx l hx (j2.mono fun v hv => .inl (by
      rw [hdr] at hv
      rcases List.mem_cons.1 hv with hv | hv
      · exact .inl (by omega)
      · exact .inr hv)) j4 j5
    refine .inl ⟨(i + 1, l'), ?_, ⟨k1, k2, fun x hx hn => k5 x (j3 x hx hn), k3, k4⟩, by simp only; omega, fun r h => h⟩
    simp [m9S, encFn, lpK, lv83, Tryz.f83] at e
    simp (disch := omega) [round_eq, m9S, encFn, Tryz.f83, lv83, hx, hlt, hltI, e, wrap_i64, -getElem?_pos]
  · have : i = l.length := by omega
    subst this
    refine .inr ⟨(.exit 0, m9S h f ss but l (I (l.length : Nat)) .junk (Sl (listsOf ss)) .junk none), ?_, nofun, l, RI.all (j2.mono fun v hv => by simp at hv) (fun x hx hn => ?_), by omega, rfl⟩
    · simp (disch := omega) [round_eq, m9S, encFn, Tryz.f83, lv83, -getElem?_pos]
    · have h0 : x = 0 := by simpa using hx
      subst h0
      have := j3 0 hx hn
      have hb := j4 0 this
      exact metOf_mt.2 ⟨by omega, this⟩
end

theorem m9_last (h : Heap) (f : Fn) (hn : f.blocks.length ≤ 1000) (ss : List (List Int)) (but : Int) (l : List Int) (hl : l.length ≤ 1000) :
    lpK 83 Tryz.f83 73 2 h (m9S h f ss but l .junk .junk (Sl (listsOf ss)) (I (0 : Nat)) (some [])) = some (.exit 4, m9S h f ss but l .junk .junk (Sl (listsOf ss)) (I (f.blocks.length : Nat)) (some (metOf f.blocks.length l))) := by
  have hlf : Fit l := by show l.length ≤ _; omega
  have key := loop_fun (P := Tryz.prog) (C := cfg) (sc := runScope Tryz.prog cfg 73 h.length (cfg.live 83) 0) (N := 73) (n0 := h.length) (K := cfg.live 83) (c := loopAt Tryz.f83 2)
    (fun k : Nat => m9S h f ss but l .junk .junk (Sl (listsOf ss)) (I (k : Nat)) (some (metOf k l))) (fun k => k ≤ f.blocks.length) (fun k => f.blocks.length - k)
    (fun _ => (.exit 4, m9S h f ss but l .junk .junk (Sl (listsOf ss)) (I (f.blocks.length : Nat)) (some (metOf f.blocks.length l)))) ?_ 0 (Nat.zero_le _)
  · exact key
  intro k hk
  rcases Nat.lt_or_ge k f.blocks.length with hlt | hge
  · have hltI : ((k : Nat) : Int) < ((f.blocks.length : Nat) : Int) := by omega
    refine .inl ⟨k + 1, ?_, hlt, by omega, rfl⟩
    simp (disch := omega) [round_eq, m9S, encFn, Tryz.f83, lv83, hlt, hltI, has _ l hlf, room_of, boolsOf_snoc, metOf_next, wrap_i64, -getElem?_pos, -List.contains_eq_mem]
  · have : k = f.blocks.length := by omega
    subst this
    refine .inr ⟨?_, nofun⟩
    simp (disch := omega) [round_eq, m9S, encFn, Tryz.f83, lv83, -getElem?_pos]

theorem met9 (h : Heap) (f : Fn) (ss : List (List Int)) (hs : ss.length = f.blocks.length) (h0 : 0 < ss.length) (but : Int) (hE : ss.length ≤ 1000) (hEl : ∀ l, l ∈ ss → l.length ≤ 100000 ∧ ∀ x, x ∈ l → 0 ≤ x ∧ x < ss.length) :
    ∃ m : List Bool, m.length = ss.length ∧ (∀ v, Mt m v ↔ Rch ss [0] but v) ∧ CX 83 [.agg (encFn f), Sl (listsOf ss), I but] h = some (Sl (boolsOf m), h, []) := by
  have hk : cfg.keep 83 = 0 := rfl
  by_cases hb : but = 0
  · obtain ⟨l', g1, g2, e1⟩ := m9_out h f ss but hE hEl [] ⟨by simp, fun v hv => by have := (metOf_mt.1 hv).2; simp at this, fun v hv => by have := (metOf_mt.1 hv).2; simp at this⟩ (fun x hx hn => by simp at hx; omega) (fun x hx => by simp at hx) (by
      have : unmet (metOf ss.length []) = ss.length := by
        have : metOf ss.length [] = List.replicate ss.length false := by
          apply List.ext_getElem?; intro i; simp [metOf]; simp [List.getElem?_replicate]; rcases Nat.lt_or_ge i ss.length with h | h <;> simp [h, Nat.not_lt.2]
        rw [this, unmet_all]
      simp; omega)
    have e2 := m9_last h f (by omega) ss but l' (by omega)
    refine ⟨metOf ss.length l', by simp, g1, CI_of Tryz.func83 rfl 0 ?_⟩
    subst hb
    rw [hs]
    simp [m9S, encFn, lpK, lv83, Tryz.f83] at e1 e2
    simp (disch := omega) [Tryz.f83, lv83, hk, encFn, e1, e2, wrap_i64, -getElem?_pos]
  · have hbI : (but != 0) = true := by simp [hb]
    have hr0 : Rch ss [0] but 0 := .start (by simp) (by omega)
    have hm0 : ∀ v : Nat, Mt (metOf ss.length [0]) v → v = 0 := fun v hv => by have := (metOf_mt.1 hv).2; simp at this; omega
    obtain ⟨l', g1, g2, e1⟩ := m9_out h f ss but hE hEl [0] ⟨by simp, fun v hv => by rw [hm0 v hv]; exact hr0, fun v hv => .inl (by rw [hm0 v hv]; simp)⟩ (fun x hx hn => hx) (fun x hx => by
        have : x = 0 := by simpa using hx
        subst this
        exact ⟨by omega, by omega, hr0⟩) (by
      have h1 : metOf ss.length [] = List.replicate ss.length false := by
        apply List.ext_getElem?; intro i; simp [metOf]; simp [List.getElem?_replicate]; rcases Nat.lt_or_ge i ss.length with h | h <;> simp [h, Nat.not_lt.2]
      have h2 := metOf_snoc (n := ss.length) (l := []) (b := 0) (by omega)
      have h3 := unmet_set (met := metOf ss.length []) (v := 0) (by rw [h1, List.getElem?_replicate, if_pos h0])
      rw [List.nil_append] at h2
      have h2' : metOf ss.length [0] = (metOf ss.length []).set 0 true := h2
      rw [← h2', h1, unmet_all] at h3
      simp only [List.length_cons, List.length_nil]
      omega)
    have e2 := m9_last h f (by omega) ss but l' (by omega)
    refine ⟨metOf ss.length l', by simp, g1, CI_of Tryz.func83 rfl 0 ?_⟩
    rw [hs]
    have hz : intsOf [0] = ([[Leaf.int .i64 0]] : List (List Leaf)) := rfl
    simp [m9S, encFn, lpK, lv83, Tryz.f83, hz] at e1 e2
    simp (disch := omega) [Tryz.f83, lv83, hk, encFn, hb, hbI, e1, e2, wrap_i64, room_of, -getElem?_pos]
end Go.Proofs.YtkbdhjfjbkmkcaaGreat.Abs

/- Which blocks stand ahead of which, as the document tells it. -/
set_option linter.unusedSimpArgs false
set_option linter.unusedVariables false
namespace Go.Proofs.YtkbdhjfjbkmkcaaGreat.Abs
open Go Go.RowKit Go.Proofs

def tabOf (rows : List (List Bool)) : List (List Leaf) := rows.map fun r => [.isl (boolsOf r)]
@[simp] theorem tabOf_length (rows : List (List Bool)) : (tabOf rows).length = rows.length := by simp [tabOf]
@[simp] theorem tabOf_nil : tabOf [] = [] := rfl
@[simp] theorem tabOf_get (rows : List (List Bool)) (i : Nat) : (tabOf rows)[i]? = (rows[i]?).map fun r => [.isl (boolsOf r)] := by simp [tabOf]
@[simp] theorem tabOf_plain (rows : List (List Bool)) : plainR (tabOf rows) = true := plainR_map (fun _ => rfl) rows
@[simp] theorem tabOf_tree (rows : List (List Bool)) : treeR (tabOf rows) = true := treeR_map (fun _ => rfl) rows
@[simp] theorem tabOf_sized (rows : List (List Bool)) : sized 1 (tabOf rows) = true := sized_map (n := 1) (f := fun r : List Bool => [Leaf.isl (boolsOf r)]) (fun _ => rfl) rows
theorem tabOf_snoc (rows : List (List Bool)) (r : List Bool) : tabOf rows ++ [[.isl (boolsOf r)]] = tabOf (rows ++ [r]) := by simp [tabOf]

def cellT (all wo : List Bool) (a b : Nat) : Bool := all.getD a false && (all.getD b false && (decide (a = b) || !(wo.getD b false)))
def rowT (all wo : List Bool) (a k : Nat) : List Bool := (List.range k).map (cellT all wo a)
@[simp] theorem rowT_length (all wo : List Bool) (a k : Nat) : (rowT all wo a k).length = k := by simp [rowT]
theorem rowT_next (all wo : List Bool) (a k : Nat) : rowT all wo a (k + 1) = rowT all wo a k ++ [cellT all wo a k] := by simp [rowT, List.range_succ]

def tbS (h : Heap) (f : Fn) (ss : List (List Int)) (all : List Bool) (a : Nat) (v9 : V) (o8 : Option (List Bool)) (v7 : V) (rows : List (List Bool)) : St :=
  ⟨[(1, .one (.ptr h.length 1 0 0)), (3, Sl (listsOf ss)), (6, I (a : Nat)), (9, v9), (8, blV (h.length + 1) o8), (4, Sl (boolsOf all)), (7, v7), (5, .one (.sl (h.length + 2) 1 rows.length 0 rows.length)), (1008, .junk), (1009, .junk), (1007, .junk)],
   h ++ [some (.row 5 [encFn f]), blO o8, some (.row 1 (tabOf rows))], []⟩

theorem tb_in (h : Heap) (f : Fn) (hn : f.blocks.length ≤ 1000) (ss : List (List Int)) (all wo : List Bool) (hal : all.length = f.blocks.length) (hwl : wo.length = f.blocks.length) (a : Nat) (ha : a < f.blocks.length) (rows : List (List Bool)) (hr : rows.length ≤ 1000) :
    lpK 47 Tryz.f47 63 1 h (tbS h f ss all a (I (0 : Nat)) (some []) (Sl (boolsOf wo)) rows) = some (.exit 2, tbS h f ss all a (I (f.blocks.length : Nat)) (some (rowT all wo a f.blocks.length)) (Sl (boolsOf wo)) rows) := by
  have key := loop_fun (P := Tryz.prog) (C := cfg) (sc := runScope Tryz.prog cfg 63 h.length (cfg.live 47) 0) (N := 63) (n0 := h.length) (K := cfg.live 47) (c := loopAt Tryz.f47 1)
    (fun k : Nat => tbS h f ss all a (I (k : Nat)) (some (rowT all wo a k)) (Sl (boolsOf wo)) rows) (fun k => k ≤ f.blocks.length) (fun k => f.blocks.length - k)
    (fun _ => (.exit 2, tbS h f ss all a (I (f.blocks.length : Nat)) (some (rowT all wo a f.blocks.length)) (Sl (boolsOf wo)) rows)) ?_ 0 (Nat.zero_le _)
  · exact key
  intro k hk
  obtain ⟨xa, hxa⟩ : ∃ x, all[a]? = some x := ⟨_, List.getElem?_eq_getElem (by omega)⟩
  rcases Nat.lt_or_ge k f.blocks.length with hlt | hge
  · have hltI : ((k : Nat) : Int) < ((f.blocks.length : Nat) : Int) := by omega
    obtain ⟨xb, hxb⟩ : ∃ x, all[k]? = some x := ⟨_, List.getElem?_eq_getElem (by omega)⟩
    obtain ⟨xw, hxw⟩ : ∃ x, wo[k]? = some x := ⟨_, List.getElem?_eq_getElem (by omega)⟩
    have hcell : cellT all wo a k = (xa && (xb && (decide (a = k) || !xw))) := by unfold cellT; simp only [List.getD, hxa, hxb, hxw, Option.getD_some]
    refine .inl ⟨k + 1, ?_, hlt, by omega, rfl⟩
    rw [rowT_next, hcell]
    by_cases hak : a = k
    · subst hak
      rw [hxa] at hxb; cases hxb
      cases xa <;> simp (disch := omega) [round_eq, tbS, encFn, Tryz.f47, lv47, hlt, hltI, hxa, hal, hwl, ha, room_of, boolsOf_snoc, wrap_i64, -getElem?_pos]
    · have hakI : (((a : Nat) : Int) == ((k : Nat) : Int)) = false := by simp; omega
      cases xa <;> cases xb <;> cases xw <;> simp (disch := omega) [round_eq, tbS, encFn, Tryz.f47, lv47, hlt, hltI, hxa, hxb, hxw, hal, hwl, ha, hak, hakI, room_of, boolsOf_snoc, wrap_i64, -getElem?_pos]
  · have : k = f.blocks.length := by omega
    subst this
    refine .inr ⟨?_, nofun⟩
    simp (disch := omega) [round_eq, tbS, encFn, Tryz.f47, lv47, -getElem?_pos]

def TRows (n : Nat) (ss : List (List Int)) (all : List Bool) (rows : List (List Bool)) : Prop :=
  ∀ (a : Nat) r, rows[a]? = some r → ∃ wo : List Bool, r = rowT all wo a n ∧ wo.length = n ∧ ∀ v, Mt wo v ↔ Rch ss [0] (a : Int) v

theorem tb_out (h : Heap) (f : Fn) (hn : f.blocks.length ≤ 1000) (ss : List (List Int)) (hs : ss.length = f.blocks.length) (h0 : 0 < ss.length) (hEl : ∀ l, l ∈ ss → l.length ≤ 100000 ∧ ∀ x, x ∈ l → 0 ≤ x ∧ x < ss.length) (all : List Bool) (hal : all.length = f.blocks.length) :
    ∃ rows, rows.length = f.blocks.length ∧ TRows f.blocks.length ss all rows ∧
    lpK 47 Tryz.f47 63 0 h (tbS h f ss all 0 .junk none .junk []) = some (.exit 0, tbS h f ss all f.blocks.length .junk none .junk rows) := by
  have key := loop_rel (P := Tryz.prog) (C := cfg) (sc := runScope Tryz.prog cfg 63 h.length (cfg.live 47) 0) (N := 63) (n0 := h.length) (K := cfg.live 47) (c := loopAt Tryz.f47 0)
    (fun rows : List (List Bool) => tbS h f ss all rows.length .junk none .junk rows) (fun rows => rows.length ≤ f.blocks.length ∧ TRows f.blocks.length ss all rows) (fun rows => f.blocks.length - rows.length)
    (fun _ r => ∃ rows, rows.length = f.blocks.length ∧ TRows f.blocks.length ss all rows ∧ r = (.exit 0, tbS h f ss all f.blocks.length .junk none .junk rows)) ?_ [] ⟨Nat.zero_le _, fun a r h => by simp at h⟩
  · obtain ⟨r, h1, rows, h2, h3, rfl⟩ := key
    exact ⟨rows, h2, h3, h1⟩
  rintro rows ⟨j1, j2⟩
  rcases Nat.lt_or_ge rows.length f.blocks.length with hlt | hge
  · have hltI : ((rows.length : Nat) : Int) < ((f.blocks.length : Nat) : Int) := by omega
    obtain ⟨wo, w1, w2, e1⟩ := met9 (h ++ [some (.row 5 [encFn f]), none, some (.row 1 (tabOf rows))]) f ss hs h0 (rows.length : Int) (by omega) hEl
    have e2 := tb_in h f hn ss all wo hal (by omega) rows.length hlt rows (by omega)
    refine .inl ⟨rows ++ [rowT all wo rows.length f.blocks.length], ?_, ⟨by simp; omega, fun a r hr => ?_⟩, by simp; omega, fun r h => h⟩
    · simp [encFn] at e1
      simp [tbS, encFn, lpK, lv47, Tryz.f47] at e2
      simp (disch := (first | omega | simp (disch := omega) [])) [round_eq, tbS, encFn, Tryz.f47, lv47, hlt, hltI, e1, e2, room_of, tabOf_snoc, wrap_i64, -getElem?_pos]
    · rcases Nat.lt_or_ge a rows.length with ha | ha
      · rw [List.getElem?_append_left ha] at hr
        exact j2 a r hr
      · have hal := (List.getElem?_eq_some_iff.1 hr).1
        simp at hal
        obtain rfl : a = rows.length := by omega
        simp at hr
        exact ⟨wo, hr.symm, by omega, w2⟩
  · have : rows.length = f.blocks.length := by omega
    refine .inr ⟨(.exit 0, tbS h f ss all f.blocks.length .junk none .junk rows), ?_, nofun, rows, this, j2, rfl⟩
    rw [this]
    simp (disch := omega) [round_eq, tbS, encFn, Tryz.f47, lv47, this, -getElem?_pos]

def TabG (n : Nat) (ss : List (List Int)) (rows : List (List Bool)) : Prop :=
  rows.length = n ∧ ∀ a, a < n → ∃ r, rows[a]? = some r ∧ r.length = n ∧ ∀ b, b < n → ∃ x, r[b]? = some x ∧ (x = true ↔ Rch ss [0] (-1) a ∧ Rch ss [0] (-1) b ∧ (a = b ∨ ¬ Rch ss [0] (a : Int) b))

theorem table (h : Heap) (f : Fn) (hf : f.Fine) (hn0 : 0 < f.blocks.length) : ∃ rows, TabG f.blocks.length (f.blocks.map nextB) rows ∧ CX 47 [.agg (encFn f)] h = some (Sl (tabOf rows), h, []) := by
  have hb := hf.len
  have hs : (f.blocks.map nextB).length = f.blocks.length := by simp
  have hEl : ∀ l, l ∈ f.blocks.map nextB → l.length ≤ 100000 ∧ ∀ x, x ∈ l → 0 ≤ x ∧ x < (f.blocks.map nextB).length := fun l hl => by
    have := hf.edges.each l hl
    exact ⟨by omega, this.2⟩
  have e1 := fun h => succs8 h f hf.ok hf.ended hb
  obtain ⟨all, a1, a2, e2⟩ := met9 (h ++ [some (.row 5 [encFn f])]) f (f.blocks.map nextB) hs (by omega) (-1) (by omega) hEl
  obtain ⟨rows, r1, r2, e3⟩ := tb_out h f hb (f.blocks.map nextB) hs (by omega) hEl all (by omega)
  refine ⟨rows, ⟨r1, fun a ha => ?_⟩, CI_of Tryz.func47 rfl 0 ?_⟩
  · obtain ⟨r, hr⟩ : ∃ r, rows[a]? = some r := ⟨_, List.getElem?_eq_getElem (by omega)⟩
    obtain ⟨wo, rfl, w1, w2⟩ := r2 a r hr
    refine ⟨_, hr, by simp, fun b hbn => ⟨cellT all wo a b, by simp [rowT, List.getElem?_range hbn], ?_⟩⟩
    have gD : ∀ (m : List Bool) (v : Nat), m.getD v false = true ↔ Mt m v := by
      intro m v
      unfold Mt
      rw [List.getD]
      cases m[v]? with
      | none => simp
      | some x => simp
    unfold cellT
    rw [Bool.and_eq_true, Bool.and_eq_true, gD, gD, a2, a2, Bool.or_eq_true, decide_eq_true_iff, Bool.not_eq_true', ← Bool.not_eq_true, gD, w2]
  · have hk : cfg.keep 47 = 0 := rfl
    simp [encFn] at e1 e2
    simp [tbS, encFn, lpK, lv47, Tryz.f47] at e3
    simp (disch := omega) [Tryz.f47, lv47, hk, encFn, e1, e2, e3, -getElem?_pos]

theorem ahead9 (h : Heap) (rows : List (List Bool)) (hrl : rows.length ≤ 1000) (a b : Nat) (r : List Bool) (x : Bool) (hr : rows[a]? = some r) (hx : r[b]? = some x) (hl : r.length = rows.length) : CX 85 [Sl (tabOf rows), I (a : Nat), I (b : Nat)] h = some (Bo x, h, []) := by
  have ha := (List.getElem?_eq_some_iff.1 hr).1
  have hb := (List.getElem?_eq_some_iff.1 hx).1
  have haI : ¬ ((rows.length : Nat) : Int) ≤ ((a : Nat) : Int) := by omega
  have hbI : ¬ ((rows.length : Nat) : Int) ≤ ((b : Nat) : Int) := by omega
  have haN : ¬ rows.length ≤ a := by omega
  have hbN : ¬ rows.length ≤ b := by omega
  have hbl : b < rows.length := by omega
  have ha0 : ¬ ((a : Nat) : Int) < 0 := by omega
  have hb0 : ¬ ((b : Nat) : Int) < 0 := by omega
  refine CI_of Tryz.func85 rfl 0 ?_
  have hk : cfg.keep 85 = 0 := rfl
  simp (disch := omega) [Tryz.f85, hk, hr, hx, ha, hb, ha0, hb0, hl, hbl, haI, hbI, haN, hbN, -getElem?_pos]
end Go.Proofs.YtkbdhjfjbkmkcaaGreat.Abs

/- Is a function well shaped? -/
set_option linter.unusedSimpArgs false
set_option linter.unusedVariables false
namespace Go.Proofs.YtkbdhjfjbkmkcaaGreat.Abs
open Go Go.RowKit Go.Proofs

def endsB (op : Int) : Bool := decide (26 ≤ op) && decide (op ≤ 29)
theorem ends (h : Heap) (op : Int) : CX 77 [I op] h = some (Bo (endsB op), h, []) := by
  refine CI_of Tryz.func77 rfl 0 ?_
  have hk : cfg.keep 77 = 0 := rfl
  unfold endsB
  by_cases h1 : 26 ≤ op
  · by_cases h2 : op ≤ 29 <;> simp (disch := omega) [Tryz.f77, hk, h1, h2]
  · simp (disch := omega) [Tryz.f77, hk, h1]

def InsOK (n len i : Nat) (x : Ins) : Prop := endsB x.op = decide (i + 1 = len) ∧ (x.op ≠ 20 → ∀ b, b ∈ x.to → 0 ≤ b ∧ b < n)

def insV (id : Nat) : Option Ins → V
  | none => .junk
  | some _ => .one (.ptr id 1 0 0)
def insO : Option Ins → Option AO
  | none => none
  | some x => some (.row 8 [encIns x])
def natV : Option Nat → V
  | none => .junk
  | some k => I (k : Nat)
@[simp] theorem insV_none (id : Nat) : insV id none = .junk := rfl
@[simp] theorem insV_some (id : Nat) (x : Ins) : insV id (some x) = .one (.ptr id 1 0 0) := rfl
@[simp] theorem insO_none : insO none = none := rfl
@[simp] theorem insO_some (x : Ins) : insO (some x) = some (.row 8 [encIns x]) := rfl
@[simp] theorem natV_none : natV none = .junk := rfl
@[simp] theorem natV_some (k : Nat) : natV (some k) = I (k : Nat) := rfl

def shS (h : Heap) (f : Fn) (k : Nat) (o5 o4 : Option Nat) (o6 : Option Ins) (o7 : Option Nat) (c a : Int) : St :=
  ⟨[(1, .one (.ptr h.length 1 0 0)), (2, .one (.ptr (h.length + 1) 1 0 0)), (3, I (k : Nat)), (5, natV o5), (4, natV o4), (6, insV (h.length + 2) o6), (7, natV o7), (1006, .junk), (1007, .junk), (1005, .junk), (1004, .junk)],
   h ++ [some (.row 5 [encFn f]), some (.row 2 [[.int .i64 c, .int .i64 a]]), insO o6], []⟩
def ShRet (h : Heap) (f : Fn) (r : AX × St) : Prop := ∃ (k i n : Nat) (o6 : Option Ins) (o7 : Option Nat) (c a : Int), c ≠ 0 ∧ r = (.ret, shS h f k (some i) (some n) o6 o7 c a)

theorem sh_c (h : Heap) (f : Fn) (hn : f.blocks.length ≤ 1000) (k i n : Nat) (x : Ins) (hx : x.Ok) :
    ∃ r, lpK 44 Tryz.f44 85 2 h (shS h f k (some i) (some n) (some x) (some 0) 0 0) = some r ∧
      ((∃ j : Nat, r = (.exit 4, shS h f k (some i) (some n) (some x) (some j) 0 0) ∧ (x.op ≠ 20 → ∀ b, b ∈ x.to → 0 ≤ b ∧ b < f.blocks.length)) ∨ ShRet h f r) := by
  have q := qt44
  simp [Tryz.f44, quietFn, quietRegs] at q
  have hxt := hx.to
  refine loop_rel (P := Tryz.prog) (C := cfg) (sc := runScope Tryz.prog cfg 85 h.length (cfg.live 44) 0) (N := 85) (n0 := h.length) (K := cfg.live 44) (c := loopAt Tryz.f44 2)
    (fun j : Nat => shS h f k (some i) (some n) (some x) (some j) 0 0) (fun j => j ≤ x.to.length ∧ ∀ (t : Nat) b, x.to[t]? = some b → t < j → 0 ≤ b ∧ b < f.blocks.length) (fun j => x.to.length - j)
    (fun _ r => (∃ j : Nat, r = (.exit 4, shS h f k (some i) (some n) (some x) (some j) 0 0) ∧ (x.op ≠ 20 → ∀ b, b ∈ x.to → 0 ≤ b ∧ b < f.blocks.length)) ∨ ShRet h f r) ?_ 0 ⟨Nat.zero_le _, fun t b _ ht => by omega⟩
  rintro j ⟨j1, j2⟩
  rcases Nat.lt_or_ge j x.to.length with hlt | hge
  · have hltI : ((j : Nat) : Int) < ((x.to.length : Nat) : Int) := by omega
    by_cases hop : x.op = 20
    · refine .inr ⟨(.exit 4, shS h f k (some i) (some n) (some x) (some j) 0 0), ?_, nofun, .inl ⟨j, rfl, fun h => absurd hop h⟩⟩
      have hopB : (x.op != 20) = false := by simp [hop]
      simp (disch := omega) [round_eq, shS, encIns, encFn, Tryz.f44, lv44, q, hlt, hltI, hopB, -getElem?_pos]
    · have hopB : (x.op != 20) = true := by simp [hop]
      obtain ⟨b, hb⟩ : ∃ b, x.to[j]? = some b := ⟨_, List.getElem?_eq_getElem hlt⟩
      by_cases hb0 : b < 0
      · refine .inr ⟨(.ret, shS h f k (some i) (some n) (some x) (some j) 7 k), ?_, nofun, .inr ⟨k, i, n, some x, some j, 7, k, by simp, rfl⟩⟩
        simp (disch := omega) [round_eq, shS, encIns, encFn, Tryz.f44, lv44, q, hlt, hltI, hopB, hb, hb0, wrap_i64, -getElem?_pos]
      · by_cases hbn : (f.blocks.length : Int) ≤ b
        · refine .inr ⟨(.ret, shS h f k (some i) (some n) (some x) (some j) 7 k), ?_, nofun, .inr ⟨k, i, n, some x, some j, 7, k, by simp, rfl⟩⟩
          simp (disch := omega) [round_eq, shS, encIns, encFn, Tryz.f44, lv44, q, hlt, hltI, hopB, hb, hb0, hbn, wrap_i64, -getElem?_pos]
        · refine .inl ⟨j + 1, ?_, ⟨hlt, fun t c hc ht => ?_⟩, by omega, fun r h => h⟩
          · simp (disch := omega) [round_eq, shS, encIns, encFn, Tryz.f44, lv44, q, hlt, hltI, hopB, hb, hb0, hbn, wrap_i64, -getElem?_pos]
          · rcases Nat.lt_or_ge t j with htj | htj
            · exact j2 t c hc htj
            · obtain rfl : t = j := by omega
              rw [hb] at hc; cases hc
              omega
  · have : j = x.to.length := by omega
    subst this
    refine .inr ⟨(.exit 4, shS h f k (some i) (some n) (some x) (some x.to.length) 0 0), ?_, nofun, .inl ⟨_, rfl, fun _ b hb => ?_⟩⟩
    · simp (disch := omega) [round_eq, shS, encIns, encFn, Tryz.f44, lv44, q, -getElem?_pos]
    · obtain ⟨t, ht⟩ := List.getElem?_of_mem hb
      exact j2 t b ht (List.getElem?_eq_some_iff.1 ht).1

theorem sh_b (h : Heap) (f : Fn) (hn : f.blocks.length ≤ 1000) (k : Nat) (l : List Ins) (hl : f.blocks[k]? = some l) (hll : l.length ≤ 100000) (hok : ∀ x, x ∈ l → x.Ok) :
    ∃ r, lpK 44 Tryz.f44 85 1 h (shS h f k (some 0) (some l.length) none none 0 0) = some r ∧
      ((r = (.exit 2, shS h f k (some l.length) (some l.length) none none 0 0) ∧ ∀ (i : Nat) x, l[i]? = some x → InsOK f.blocks.length l.length i x) ∨ ShRet h f r) := by
  have q := qt44
  simp [Tryz.f44, quietFn, quietRegs] at q
  have hkl := (List.getElem?_eq_some_iff.1 hl).1
  refine loop_rel (P := Tryz.prog) (C := cfg) (sc := runScope Tryz.prog cfg 85 h.length (cfg.live 44) 0) (N := 85) (n0 := h.length) (K := cfg.live 44) (c := loopAt Tryz.f44 1)
    (fun i : Nat => shS h f k (some i) (some l.length) none none 0 0) (fun i => i ≤ l.length ∧ ∀ (t : Nat) x, l[t]? = some x → t < i → InsOK f.blocks.length l.length t x) (fun i => l.length - i)
    (fun _ r => (r = (.exit 2, shS h f k (some l.length) (some l.length) none none 0 0) ∧ ∀ (i : Nat) x, l[i]? = some x → InsOK f.blocks.length l.length i x) ∨ ShRet h f r) ?_ 0 ⟨Nat.zero_le _, fun t b _ ht => by omega⟩
  rintro i ⟨j1, j2⟩
  rcases Nat.lt_or_ge i l.length with hlt | hge
  · have hltI : ((i : Nat) : Int) < ((l.length : Nat) : Int) := by omega
    obtain ⟨x, hx⟩ : ∃ x, l[i]? = some x := ⟨_, List.getElem?_eq_getElem hlt⟩
    have hxo := hok x (List.mem_of_getElem? hx)
    have hdec : (((i : Nat) : Int) + 1 == ((l.length : Nat) : Int)) = decide (i + 1 = l.length) := by
      rw [Bool.eq_iff_iff]; simp; omega
    by_cases hE : endsB x.op = decide (i + 1 = l.length)
    · have hEB : (endsB x.op != decide (i + 1 = l.length)) = false := by rw [hE]; simp
      obtain ⟨r, e, hr⟩ := sh_c h f hn k i l.length x hxo
      rcases hr with ⟨j, rfl, hr⟩ | ⟨k', i', n', o6, o7, c, a, hc, rfl⟩
      · refine .inl ⟨i + 1, ?_, ⟨hlt, fun t y hy ht => ?_⟩, by omega, fun r h => h⟩
        · simp [shS, encIns, encFn, lpK, lv44, Tryz.f44] at e
          simp (disch := omega) [round_eq, shS, encIns, encFn, Tryz.f44, lv44, q, hl, hkl, hx, hlt, hltI, ends, hdec, hEB, e, wrap_i64, -getElem?_pos]
        · rcases Nat.lt_or_ge t i with hti | hti
          · exact j2 t y hy hti
          · obtain rfl : t = i := by omega
            rw [hx] at hy; cases hy
            exact ⟨hE, hr⟩
      · refine .inr ⟨(.ret, shS h f k' (some i') (some n') o6 o7 c a), ?_, nofun, .inr ⟨k', i', n', o6, o7, c, a, hc, rfl⟩⟩
        cases o6 <;> cases o7 <;>
        (simp [shS, encIns, encFn, lpK, lv44, Tryz.f44] at e
         simp (disch := omega) [round_eq, shS, encIns, encFn, Tryz.f44, lv44, q, hl, hkl, hx, hlt, hltI, ends, hdec, hEB, e, wrap_i64, -getElem?_pos])
    · have hEB : (endsB x.op != decide (i + 1 = l.length)) = true := by simpa using hE
      refine .inr ⟨(.ret, shS h f k (some i) (some l.length) (some x) none 15 k), ?_, nofun, .inr ⟨k, i, l.length, some x, none, 15, k, by simp, rfl⟩⟩
      simp (disch := omega) [round_eq, shS, encIns, encFn, Tryz.f44, lv44, q, hl, hkl, hx, hlt, hltI, ends, hdec, hEB, wrap_i64, -getElem?_pos]
  · have : i = l.length := by omega
    subst this
    refine .inr ⟨(.exit 2, shS h f k (some l.length) (some l.length) none none 0 0), ?_, nofun, .inl ⟨rfl, fun t x hx => j2 t x hx (List.getElem?_eq_some_iff.1 hx).1⟩⟩
    simp (disch := omega) [round_eq, shS, encIns, encFn, Tryz.f44, lv44, q, -getElem?_pos]

def ShOK (f : Fn) : Prop := ∀ l, l ∈ f.blocks → l ≠ [] ∧ ∀ (i : Nat) x, l[i]? = some x → InsOK f.blocks.length l.length i x

theorem sh_a (h : Heap) (f : Fn) (hf : f.Ok) (hn : f.blocks.length ≤ 1000) (hc : ∀ l, l ∈ f.blocks → l.length ≤ 100000) :
    ∃ r, lpK 44 Tryz.f44 85 0 h (shS h f 0 none none none none 0 0) = some r ∧ ((r = (.exit 0, shS h f f.blocks.length none none none none 0 0) ∧ ShOK f) ∨ ShRet h f r) := by
  have q := qt44
  simp [Tryz.f44, quietFn, quietRegs] at q
  refine loop_rel (P := Tryz.prog) (C := cfg) (sc := runScope Tryz.prog cfg 85 h.length (cfg.live 44) 0) (N := 85) (n0 := h.length) (K := cfg.live 44) (c := loopAt Tryz.f44 0)
    (fun k : Nat => shS h f k none none none none 0 0) (fun k => k ≤ f.blocks.length ∧ ∀ (t : Nat) l, f.blocks[t]? = some l → t < k → l ≠ [] ∧ ∀ (i : Nat) x, l[i]? = some x → InsOK f.blocks.length l.length i x) (fun k => f.blocks.length - k)
    (fun _ r => (r = (.exit 0, shS h f f.blocks.length none none none none 0 0) ∧ ShOK f) ∨ ShRet h f r) ?_ 0 ⟨Nat.zero_le _, fun t b _ ht => by omega⟩
  rintro k ⟨j1, j2⟩
  rcases Nat.lt_or_ge k f.blocks.length with hlt | hge
  · have hltI : ((k : Nat) : Int) < ((f.blocks.length : Nat) : Int) := by omega
    obtain ⟨l, hl⟩ : ∃ l, f.blocks[k]? = some l := ⟨_, List.getElem?_eq_getElem hlt⟩
    have hm := List.mem_of_getElem? hl
    obtain ⟨r, e, hr⟩ := sh_b h f hn k l hl (hc l hm) (hf.each l hm)
    rcases hr with ⟨rfl, hr⟩ | ⟨k', i', n', o6, o7, c, a, hc, rfl⟩
    · simp [shS, encFn, lpK, lv44, Tryz.f44] at e
      by_cases hne : l = []
      · subst hne
        refine .inr ⟨(.ret, shS h f k (some 0) (some 0) none none 15 k), ?_, nofun, .inr ⟨k, 0, 0, none, none, 15, k, by simp, rfl⟩⟩
        simp at e
        simp (disch := omega) [round_eq, shS, encFn, Tryz.f44, lv44, q, hl, hlt, hltI, e, wrap_i64, -getElem?_pos]
      · have hlp := List.length_pos_iff.2 hne
        have hl0 : ¬ l.length = 0 := by omega
        have hlI : (((l.length : Nat) : Int) == 0) = false := by simp; omega
        refine .inl ⟨k + 1, ?_, ⟨hlt, fun t y hy ht => ?_⟩, by omega, fun r h => h⟩
        · simp (disch := omega) [round_eq, shS, encFn, Tryz.f44, lv44, q, hl, hlt, hltI, hne, hl0, hlI, e, wrap_i64, -getElem?_pos]
        · rcases Nat.lt_or_ge t k with hti | hti
          · exact j2 t y hy hti
          · obtain rfl : t = k := by omega
            rw [hl] at hy; cases hy
            exact ⟨hne, hr⟩
    · refine .inr ⟨(.ret, shS h f k' (some i') (some n') o6 o7 c a), ?_, nofun, .inr ⟨k', i', n', o6, o7, c, a, hc, rfl⟩⟩
      cases o6 <;> cases o7 <;>
      (simp [shS, encIns, encFn, lpK, lv44, Tryz.f44] at e
       simp (disch := omega) [round_eq, shS, encIns, encFn, Tryz.f44, lv44, q, hl, hlt, hltI, e, wrap_i64, -getElem?_pos])
  · have : k = f.blocks.length := by omega
    subst this
    refine .inr ⟨(.exit 0, shS h f f.blocks.length none none none none 0 0), ?_, nofun, .inl ⟨rfl, fun l hl => ?_⟩⟩
    · simp (disch := omega) [round_eq, shS, encFn, Tryz.f44, lv44, q, -getElem?_pos]
    · obtain ⟨t, ht⟩ := List.getElem?_of_mem hl
      exact j2 t l ht (List.getElem?_eq_some_iff.1 ht).1

theorem shaped (h : Heap) (f : Fn) (hf : f.Ok) (hn : f.blocks.length ≤ 1000) (hc : ∀ l, l ∈ f.blocks → l.length ≤ 100000) :
    ∃ c a : Int, CX 44 [.agg (encFn f)] h = some (.agg [.int .i64 c, .int .i64 a], h, []) ∧ (c = 0 → 0 < f.blocks.length ∧ ShOK f) := by
  have hk : cfg.keep 44 = 0 := rfl
  have q := qt44
  simp [Tryz.f44, quietFn, quietRegs] at q
  by_cases h0 : f.blocks.length = 0
  · refine ⟨15, 0, CI_of Tryz.func44 rfl 0 ?_, fun h => by simp at h⟩
    simp (disch := omega) [Tryz.f44, lv44, hk, encFn, h0, -getElem?_pos]
  · have hB : (((f.blocks.length : Nat) : Int) == 0) = false := by rw [beq_eq_false_iff_ne]; omega
    obtain ⟨r, e, hr⟩ := sh_a h f hf hn hc
    rcases hr with ⟨rfl, hr⟩ | ⟨k', i', n', o6, o7, c, a, hc, rfl⟩
    · refine ⟨0, 0, CI_of Tryz.func44 rfl 0 ?_, fun _ => ⟨by omega, hr⟩⟩
      simp [shS, encIns, encFn, lpK, lv44, Tryz.f44] at e
      simp (disch := omega) [Tryz.f44, lv44, hk, encFn, h0, hB, e, -getElem?_pos]
    · refine ⟨c, a, CI_of Tryz.func44 rfl 0 ?_, fun h => absurd h hc⟩
      cases o6 <;> cases o7 <;>
      (simp [shS, encIns, encFn, lpK, lv44, Tryz.f44] at e
       simp (disch := omega) [Tryz.f44, lv44, hk, encFn, h0, hB, e, -getElem?_pos])
end Go.Proofs.YtkbdhjfjbkmkcaaGreat.Abs

/- Functions as they are handed in. -/
set_option linter.unusedSimpArgs false
set_option linter.unusedVariables false
namespace Go.Proofs.YtkbdhjfjbkmkcaaGreat.Abs
open Go Go.RowKit Go.Proofs

theorem foldU_mem : ∀ (xs out : List Int) (b : Int), b ∈ xs.foldl addU out → b ∈ out ∨ b ∈ xs
  | [], out, b, h => .inl h
  | x :: xs, out, b, h => by
    rw [List.foldl_cons] at h
    rcases foldU_mem xs _ b h with h | h
    · unfold addU at h
      split at h
      · exact .inl h
      · rcases List.mem_append.1 h with h | h
        · exact .inl h
        · rw [List.mem_singleton.1 h]; exact .inr (by simp)
    · exact .inr (by simp [h])
/-! Functions as they are handed in. -/
theorem list_of' {α β : Type} {f : α → β} : ∀ {es : List β}, (∀ x, x ∈ es → ∃ a, x = f a) → ∃ l : List α, es = l.map f ∧ l.length = es.length
  | [], _ => ⟨[], rfl, rfl⟩
  | e :: es, h => by
    obtain ⟨a, ha⟩ := h e List.mem_cons_self
    obtain ⟨l, hl, hn⟩ := list_of' (es := es) fun x hx => h x (List.mem_cons_of_mem _ hx)
    exact ⟨a :: l, by rw [ha, hl]; rfl, by simp [hn]⟩
theorem reach_fit' {α : Type} {xs : List α} {b : Nat} (hb : 8 ≤ b) (h : xs.length * b ≤ reachBytes) : Fit xs := by
  unfold reachBytes at h
  have : xs.length * 8 ≤ xs.length * b := Nat.mul_le_mul_left _ hb
  show xs.length ≤ _
  omega
theorem typed_ints' {ls : List Leaf} (h : Typed (.slice (.int .i64)) ls) : ∃ xs : List Int, ls = [.isl (intsOf xs)] ∧ Fit xs := by
  simp only [Typed] at h
  obtain ⟨es, rfl, h1, h2⟩ := h
  obtain ⟨xs, rfl, hl⟩ := list_of' (f := fun n : Int => [Leaf.int .i64 n]) (es := es) fun x hx => by
    obtain ⟨n, hn, _⟩ := h2 x hx; exact ⟨n, hn⟩
  exact ⟨xs, rfl, reach_fit' (b := 8) (by omega) (by rw [hl]; exact h1)⟩
theorem typed_int {ls : List Leaf} (h : Typed (.int .i64) ls) : ∃ n : Int, ls = [.int .i64 n] := by
  simp only [Typed] at h
  obtain ⟨n, rfl, _⟩ := h
  exact ⟨n, rfl⟩
theorem typed_str {ls : List Leaf} (h : Typed .str ls) : ∃ s : List UInt8, ls = [.str s] := by
  simp only [Typed] at h
  obtain ⟨n, rfl, _⟩ := h
  exact ⟨n, rfl⟩
def tIns : Ty := .struct [.int .i64, .int .i64, .int .i64, .int .i64, .slice (.int .i64), .slice (.int .i64), .str, .int .i64]
def tFn : Ty := .struct [.str, .slice (.int .i64), .int .i64, .slice (.slice tIns), .int .i64]
theorem typed_ins {ls : List Leaf} (h : Typed tIns ls) : ∃ x : { x : Ins // x.Ok }, ls = encIns x.1 := by
  simp only [Typed, tIns, TypedAll] at h
  obtain ⟨_, _, rfl, g1, _, _, rfl, g2, _, _, rfl, g3, _, _, rfl, g4, _, _, rfl, g5, _, _, rfl, g6, _, _, rfl, g7, _, _, rfl, g8, rfl⟩ := h
  obtain ⟨a, rfl, _⟩ := g1
  obtain ⟨b, rfl, _⟩ := g2
  obtain ⟨c, rfl, _⟩ := g3
  obtain ⟨d, rfl, _⟩ := g4
  obtain ⟨e, rfl, he⟩ := typed_ints' (by simpa only [Typed] using g5)
  obtain ⟨t, rfl, ht⟩ := typed_ints' (by simpa only [Typed] using g6)
  obtain ⟨s, rfl, _⟩ := g7
  obtain ⟨w, rfl, _⟩ := g8
  exact ⟨⟨⟨a, b, c, d, e, t, s, w⟩, ⟨he, ht⟩⟩, rfl⟩
theorem typed_code {ls : List Leaf} (h : Typed (.slice tIns) ls) : ∃ l : { l : List Ins // Fit l ∧ ∀ x, x ∈ l → x.Ok }, ls = [.isl (codeOf l.1)] := by
  unfold Typed at h
  obtain ⟨es, rfl, h1, h2⟩ := h
  obtain ⟨xs, rfl, hl⟩ := list_of' (f := fun x : { x : Ins // x.Ok } => encIns x.1) (es := es) fun x hx => typed_ins (h2 x hx)
  refine ⟨⟨xs.map (·.1), ?_, fun x hx => ?_⟩, by simp [codeOf, List.map_map]⟩
  · have := reach_fit' (xs := xs) (b := 32) (by omega) (by rw [hl]; exact h1)
    simpa [Fit] using this
  · obtain ⟨y, _, rfl⟩ := List.mem_map.1 hx; exact y.2
theorem typed_fn {v : V} (h : TypedV tFn v) : ∃ f : Fn, v = .agg (encFn f) ∧ f.Ok := by
  obtain ⟨ls, rfl, h⟩ := h
  simp only [TypedAll] at h
  obtain ⟨_, _, rfl, g1, _, _, rfl, g2, _, _, rfl, g3, _, _, rfl, g4, _, _, rfl, g5, rfl⟩ := h
  obtain ⟨nm, rfl⟩ := typed_str g1
  obtain ⟨ps, rfl, hps⟩ := typed_ints' g2
  obtain ⟨rt, rfl⟩ := typed_int g3
  unfold Typed at g4
  obtain ⟨es, rfl, h1, h2⟩ := g4
  obtain ⟨w, rfl⟩ := typed_int g5
  obtain ⟨bs, rfl, hl⟩ := list_of' (f := fun l : { l : List Ins // Fit l ∧ ∀ x, x ∈ l → x.Ok } => [Leaf.isl (codeOf l.1)]) (es := es) fun x hx => typed_code (h2 x hx)
  refine ⟨⟨nm, ps, rt, bs.map (·.1), w⟩, by simp [encFn, blksOf, List.map_map, Function.comp_def], ⟨hps, ?_, fun l hl => ?_, fun l hl => ?_⟩⟩
  · have := reach_fit' (xs := bs) (b := 24) (by omega) (by rw [hl]; exact h1)
    simpa [Fit] using this
  · obtain ⟨y, _, rfl⟩ := List.mem_map.1 hl; exact y.2.1
  · obtain ⟨y, _, rfl⟩ := List.mem_map.1 hl; exact y.2.2
end Go.Proofs.YtkbdhjfjbkmkcaaGreat.Abs

/- Operations: which types they may have, what they take and make, as the document tells it. -/
set_option linter.unusedSimpArgs false
set_option linter.unusedVariables false
namespace Go.Proofs.YtkbdhjfjbkmkcaaGreat.Abs
open Go Go.RowKit Go.Proofs

theorem build_two {P : Program} {H : Heap} {t : TypeId} {b : Nat} {z : List Leaf} (E : ElemT P t 1 b z) (x y : Leaf) : buildSliceV P none H t 2 [(0, .one x), (1, .one y)] = some (.one (.sl H.length 1 2 0 2), H ++ [some (.row 1 [[x], [y]])], []) := by
  obtain ⟨⟨e, h1, h2, h3⟩, h4, _, _⟩ := E
  obtain ⟨i, h5, h6⟩ := Option.map_eq_some_iff.1 h2
  obtain ⟨h7, h8⟩ := Prod.mk.inj h6
  obtain ⟨z0, rfl⟩ : ∃ z0, z = [z0] := by match z, h4 with | [z0], _ => exact ⟨z0, rfl⟩
  simp [buildSliceV, h1, h5, h3, h7, fillAt, V.cells, putCells, chunk, allocR, put]
theorem bs2 {H : Heap} (x y : Leaf) : buildSliceV Tryz.prog none H 33 2 [(0, .one x), (1, .one y)] = some (.one (.sl H.length 1 2 0 2), H ++ [some (.row 1 [[x], [y]])], []) := build_two E33 x y

def typedB (op : Int) : Bool := decide (op = 20) || (decide (op = 21) || decide (op = 24))
def mayB (op ty : Int) : Bool := if op = 20 then decide (1 ≤ ty ∧ ty ≤ 3) else if op = 21 then decide (0 ≤ ty ∧ ty ≤ 2) else if op = 24 then decide (ty = 2 ∨ ty = 3) else decide (ty = 0)
def takesL (op : Int) : List Int :=
  if 2 ≤ op ∧ op ≤ 7 then [1, 1] else if op = 9 ∨ op = 14 then [2, 2] else if op = 11 ∨ op = 12 ∨ op = 15 ∨ op = 25 then [2] else if op = 13 then [2, 1] else if op = 16 ∨ op = 17 then [3]
  else if op = 18 then [3, 1] else if op = 19 then [3, 2] else if op = 22 ∨ op = 27 then [1] else []
def makesF (op ty : Int) : Int :=
  if op = 20 ∨ op = 21 ∨ op = 24 then ty else if (1 ≤ op ∧ op ≤ 7) ∨ op = 9 ∨ op = 11 ∨ op = 16 then 1 else if op = 8 ∨ op = 10 ∨ op = 12 ∨ op = 17 then 2 else if op = 15 then 3 else 0
def mostF (op : Int) : Int := if op = 1 then 9223372036854775807 else if 11 ≤ op ∧ op ≤ 15 then 15 else if op = 21 ∨ op = 23 ∨ op = 24 then 1048576 else if op = 29 then 255 else -1
def countsB (op : Int) (a b : Nat) : Bool :=
  if op = 20 then decide (1 ≤ b ∧ a = b) else if op = 21 then decide (b = 0) else if op = 28 then decide (a ≤ 1 ∧ b = 0) else if op = 24 then decide (a = 1 ∧ b = 0) else if op = 26 then decide (a = 0 ∧ b = 1) else if op = 27 then decide (a = 1 ∧ b = 2)
  else decide (a = (takesL op).length ∧ b = 0)

theorem typed5 (h : Heap) (op : Int) : CX 33 [I op] h = some (Bo (typedB op), h, []) := by
  refine CI_of Tryz.func33 rfl 0 ?_
  have hk : cfg.keep 33 = 0 := rfl
  have hc : op = 1 ∨ op = 2 ∨ op = 3 ∨ op = 4 ∨ op = 5 ∨ op = 6 ∨ op = 7 ∨ op = 8 ∨ op = 9 ∨ op = 10 ∨ op = 11 ∨ op = 12 ∨ op = 13 ∨ op = 14 ∨ op = 15 ∨ op = 16 ∨ op = 17 ∨ op = 18 ∨ op = 19 ∨ op = 20 ∨ op = 21 ∨ op = 22 ∨ op = 23 ∨ op = 24 ∨ op = 25 ∨ op = 26 ∨ op = 27 ∨ op = 28 ∨ op = 29 ∨ (op < 1 ∨ 29 < op) := by omega
  rcases hc with rfl | rfl | rfl | rfl | rfl | rfl | rfl | rfl | rfl | rfl | rfl | rfl | rfl | rfl | rfl | rfl | rfl | rfl | rfl | rfl | rfl | rfl | rfl | rfl | rfl | rfl | rfl | rfl | rfl | h0
  rotate_right
  rcases h0 with h0 | h0
  · have _x := 0
    have n1 : ¬ op = 1 := by omega
    have b1 : (op == 1) = false := by simp [n1]
    have n2 : ¬ op = 2 := by omega
    have b2 : (op == 2) = false := by simp [n2]
    have n3 : ¬ op = 3 := by omega
    have b3 : (op == 3) = false := by simp [n3]
    have n4 : ¬ op = 4 := by omega
    have b4 : (op == 4) = false := by simp [n4]
    have n5 : ¬ op = 5 := by omega
    have b5 : (op == 5) = false := by simp [n5]
    have n6 : ¬ op = 6 := by omega
    have b6 : (op == 6) = false := by simp [n6]
    have n7 : ¬ op = 7 := by omega
    have b7 : (op == 7) = false := by simp [n7]
    have n8 : ¬ op = 8 := by omega
    have b8 : (op == 8) = false := by simp [n8]
    have n9 : ¬ op = 9 := by omega
    have b9 : (op == 9) = false := by simp [n9]
    have n10 : ¬ op = 10 := by omega
    have b10 : (op == 10) = false := by simp [n10]
    have n11 : ¬ op = 11 := by omega
    have b11 : (op == 11) = false := by simp [n11]
    have n12 : ¬ op = 12 := by omega
    have b12 : (op == 12) = false := by simp [n12]
    have n13 : ¬ op = 13 := by omega
    have b13 : (op == 13) = false := by simp [n13]
    have n14 : ¬ op = 14 := by omega
    have b14 : (op == 14) = false := by simp [n14]
    have n15 : ¬ op = 15 := by omega
    have b15 : (op == 15) = false := by simp [n15]
    have n16 : ¬ op = 16 := by omega
    have b16 : (op == 16) = false := by simp [n16]
    have n17 : ¬ op = 17 := by omega
    have b17 : (op == 17) = false := by simp [n17]
    have n18 : ¬ op = 18 := by omega
    have b18 : (op == 18) = false := by simp [n18]
    have n19 : ¬ op = 19 := by omega
    have b19 : (op == 19) = false := by simp [n19]
    have n20 : ¬ op = 20 := by omega
    have b20 : (op == 20) = false := by simp [n20]
    have n21 : ¬ op = 21 := by omega
    have b21 : (op == 21) = false := by simp [n21]
    have n22 : ¬ op = 22 := by omega
    have b22 : (op == 22) = false := by simp [n22]
    have n23 : ¬ op = 23 := by omega
    have b23 : (op == 23) = false := by simp [n23]
    have n24 : ¬ op = 24 := by omega
    have b24 : (op == 24) = false := by simp [n24]
    have n25 : ¬ op = 25 := by omega
    have b25 : (op == 25) = false := by simp [n25]
    have n26 : ¬ op = 26 := by omega
    have b26 : (op == 26) = false := by simp [n26]
    have n27 : ¬ op = 27 := by omega
    have b27 : (op == 27) = false := by simp [n27]
    have n28 : ¬ op = 28 := by omega
    have b28 : (op == 28) = false := by simp [n28]
    have n29 : ¬ op = 29 := by omega
    have b29 : (op == 29) = false := by simp [n29]
    simp (disch := omega) [Tryz.f33, hk, typedB, n1, b1, n2, b2, n3, b3, n4, b4, n5, b5, n6, b6, n7, b7, n8, b8, n9, b9, n10, b10, n11, b11, n12, b12, n13, b13, n14, b14, n15, b15, n16, b16, n17, b17, n18, b18, n19, b19, n20, b20, n21, b21, n22, b22, n23, b23, n24, b24, n25, b25, n26, b26, n27, b27, n28, b28, n29, b29, -getElem?_pos]
  · have _x := 0
    have n1 : ¬ op = 1 := by omega
    have b1 : (op == 1) = false := by simp [n1]
    have n2 : ¬ op = 2 := by omega
    have b2 : (op == 2) = false := by simp [n2]
    have n3 : ¬ op = 3 := by omega
    have b3 : (op == 3) = false := by simp [n3]
    have n4 : ¬ op = 4 := by omega
    have b4 : (op == 4) = false := by simp [n4]
    have n5 : ¬ op = 5 := by omega
    have b5 : (op == 5) = false := by simp [n5]
    have n6 : ¬ op = 6 := by omega
    have b6 : (op == 6) = false := by simp [n6]
    have n7 : ¬ op = 7 := by omega
    have b7 : (op == 7) = false := by simp [n7]
    have n8 : ¬ op = 8 := by omega
    have b8 : (op == 8) = false := by simp [n8]
    have n9 : ¬ op = 9 := by omega
    have b9 : (op == 9) = false := by simp [n9]
    have n10 : ¬ op = 10 := by omega
    have b10 : (op == 10) = false := by simp [n10]
    have n11 : ¬ op = 11 := by omega
    have b11 : (op == 11) = false := by simp [n11]
    have n12 : ¬ op = 12 := by omega
    have b12 : (op == 12) = false := by simp [n12]
    have n13 : ¬ op = 13 := by omega
    have b13 : (op == 13) = false := by simp [n13]
    have n14 : ¬ op = 14 := by omega
    have b14 : (op == 14) = false := by simp [n14]
    have n15 : ¬ op = 15 := by omega
    have b15 : (op == 15) = false := by simp [n15]
    have n16 : ¬ op = 16 := by omega
    have b16 : (op == 16) = false := by simp [n16]
    have n17 : ¬ op = 17 := by omega
    have b17 : (op == 17) = false := by simp [n17]
    have n18 : ¬ op = 18 := by omega
    have b18 : (op == 18) = false := by simp [n18]
    have n19 : ¬ op = 19 := by omega
    have b19 : (op == 19) = false := by simp [n19]
    have n20 : ¬ op = 20 := by omega
    have b20 : (op == 20) = false := by simp [n20]
    have n21 : ¬ op = 21 := by omega
    have b21 : (op == 21) = false := by simp [n21]
    have n22 : ¬ op = 22 := by omega
    have b22 : (op == 22) = false := by simp [n22]
    have n23 : ¬ op = 23 := by omega
    have b23 : (op == 23) = false := by simp [n23]
    have n24 : ¬ op = 24 := by omega
    have b24 : (op == 24) = false := by simp [n24]
    have n25 : ¬ op = 25 := by omega
    have b25 : (op == 25) = false := by simp [n25]
    have n26 : ¬ op = 26 := by omega
    have b26 : (op == 26) = false := by simp [n26]
    have n27 : ¬ op = 27 := by omega
    have b27 : (op == 27) = false := by simp [n27]
    have n28 : ¬ op = 28 := by omega
    have b28 : (op == 28) = false := by simp [n28]
    have n29 : ¬ op = 29 := by omega
    have b29 : (op == 29) = false := by simp [n29]
    simp (disch := omega) [Tryz.f33, hk, typedB, n1, b1, n2, b2, n3, b3, n4, b4, n5, b5, n6, b6, n7, b7, n8, b8, n9, b9, n10, b10, n11, b11, n12, b12, n13, b13, n14, b14, n15, b15, n16, b16, n17, b17, n18, b18, n19, b19, n20, b20, n21, b21, n22, b22, n23, b23, n24, b24, n25, b25, n26, b26, n27, b27, n28, b28, n29, b29, -getElem?_pos]
  all_goals (simp (disch := omega) [Tryz.f33, hk, typedB, -getElem?_pos])
theorem takes5 (h : Heap) (op : Int) : CX 104 [I op] h = some (Sl (intsOf (takesL op)), h, []) := by
  refine CI_of Tryz.func104 rfl 0 ?_
  have hk : cfg.keep 104 = 0 := rfl
  have hc : op = 1 ∨ op = 2 ∨ op = 3 ∨ op = 4 ∨ op = 5 ∨ op = 6 ∨ op = 7 ∨ op = 8 ∨ op = 9 ∨ op = 10 ∨ op = 11 ∨ op = 12 ∨ op = 13 ∨ op = 14 ∨ op = 15 ∨ op = 16 ∨ op = 17 ∨ op = 18 ∨ op = 19 ∨ op = 20 ∨ op = 21 ∨ op = 22 ∨ op = 23 ∨ op = 24 ∨ op = 25 ∨ op = 26 ∨ op = 27 ∨ op = 28 ∨ op = 29 ∨ (op < 1 ∨ 29 < op) := by omega
  rcases hc with rfl | rfl | rfl | rfl | rfl | rfl | rfl | rfl | rfl | rfl | rfl | rfl | rfl | rfl | rfl | rfl | rfl | rfl | rfl | rfl | rfl | rfl | rfl | rfl | rfl | rfl | rfl | rfl | rfl | h0
  rotate_right
  rcases h0 with h0 | h0
  · have _x := 0
    have n1 : ¬ op = 1 := by omega
    have b1 : (op == 1) = false := by simp [n1]
    have n2 : ¬ op = 2 := by omega
    have b2 : (op == 2) = false := by simp [n2]
    have n3 : ¬ op = 3 := by omega
    have b3 : (op == 3) = false := by simp [n3]
    have n4 : ¬ op = 4 := by omega
    have b4 : (op == 4) = false := by simp [n4]
    have n5 : ¬ op = 5 := by omega
    have b5 : (op == 5) = false := by simp [n5]
    have n6 : ¬ op = 6 := by omega
    have b6 : (op == 6) = false := by simp [n6]
    have n7 : ¬ op = 7 := by omega
    have b7 : (op == 7) = false := by simp [n7]
    have n8 : ¬ op = 8 := by omega
    have b8 : (op == 8) = false := by simp [n8]
    have n9 : ¬ op = 9 := by omega
    have b9 : (op == 9) = false := by simp [n9]
    have n10 : ¬ op = 10 := by omega
    have b10 : (op == 10) = false := by simp [n10]
    have n11 : ¬ op = 11 := by omega
    have b11 : (op == 11) = false := by simp [n11]
    have n12 : ¬ op = 12 := by omega
    have b12 : (op == 12) = false := by simp [n12]
    have n13 : ¬ op = 13 := by omega
    have b13 : (op == 13) = false := by simp [n13]
    have n14 : ¬ op = 14 := by omega
    have b14 : (op == 14) = false := by simp [n14]
    have n15 : ¬ op = 15 := by omega
    have b15 : (op == 15) = false := by simp [n15]
    have n16 : ¬ op = 16 := by omega
    have b16 : (op == 16) = false := by simp [n16]
    have n17 : ¬ op = 17 := by omega
    have b17 : (op == 17) = false := by simp [n17]
    have n18 : ¬ op = 18 := by omega
    have b18 : (op == 18) = false := by simp [n18]
    have n19 : ¬ op = 19 := by omega
    have b19 : (op == 19) = false := by simp [n19]
    have n20 : ¬ op = 20 := by omega
    have b20 : (op == 20) = false := by simp [n20]
    have n21 : ¬ op = 21 := by omega
    have b21 : (op == 21) = false := by simp [n21]
    have n22 : ¬ op = 22 := by omega
    have b22 : (op == 22) = false := by simp [n22]
    have n23 : ¬ op = 23 := by omega
    have b23 : (op == 23) = false := by simp [n23]
    have n24 : ¬ op = 24 := by omega
    have b24 : (op == 24) = false := by simp [n24]
    have n25 : ¬ op = 25 := by omega
    have b25 : (op == 25) = false := by simp [n25]
    have n26 : ¬ op = 26 := by omega
    have b26 : (op == 26) = false := by simp [n26]
    have n27 : ¬ op = 27 := by omega
    have b27 : (op == 27) = false := by simp [n27]
    have n28 : ¬ op = 28 := by omega
    have b28 : (op == 28) = false := by simp [n28]
    have n29 : ¬ op = 29 := by omega
    have b29 : (op == 29) = false := by simp [n29]
    have f0 : ¬ 2 ≤ op := by omega
    have f1 : ¬ (2 ≤ op ∧ op ≤ 7) := by omega
    simp (disch := omega) [Tryz.f104, hk, takesL, intsOf, bs2, f0, f1, n1, b1, n2, b2, n3, b3, n4, b4, n5, b5, n6, b6, n7, b7, n8, b8, n9, b9, n10, b10, n11, b11, n12, b12, n13, b13, n14, b14, n15, b15, n16, b16, n17, b17, n18, b18, n19, b19, n20, b20, n21, b21, n22, b22, n23, b23, n24, b24, n25, b25, n26, b26, n27, b27, n28, b28, n29, b29, -getElem?_pos]
  · have _x := 0
    have n1 : ¬ op = 1 := by omega
    have b1 : (op == 1) = false := by simp [n1]
    have n2 : ¬ op = 2 := by omega
    have b2 : (op == 2) = false := by simp [n2]
    have n3 : ¬ op = 3 := by omega
    have b3 : (op == 3) = false := by simp [n3]
    have n4 : ¬ op = 4 := by omega
    have b4 : (op == 4) = false := by simp [n4]
    have n5 : ¬ op = 5 := by omega
    have b5 : (op == 5) = false := by simp [n5]
    have n6 : ¬ op = 6 := by omega
    have b6 : (op == 6) = false := by simp [n6]
    have n7 : ¬ op = 7 := by omega
    have b7 : (op == 7) = false := by simp [n7]
    have n8 : ¬ op = 8 := by omega
    have b8 : (op == 8) = false := by simp [n8]
    have n9 : ¬ op = 9 := by omega
    have b9 : (op == 9) = false := by simp [n9]
    have n10 : ¬ op = 10 := by omega
    have b10 : (op == 10) = false := by simp [n10]
    have n11 : ¬ op = 11 := by omega
    have b11 : (op == 11) = false := by simp [n11]
    have n12 : ¬ op = 12 := by omega
    have b12 : (op == 12) = false := by simp [n12]
    have n13 : ¬ op = 13 := by omega
    have b13 : (op == 13) = false := by simp [n13]
    have n14 : ¬ op = 14 := by omega
    have b14 : (op == 14) = false := by simp [n14]
    have n15 : ¬ op = 15 := by omega
    have b15 : (op == 15) = false := by simp [n15]
    have n16 : ¬ op = 16 := by omega
    have b16 : (op == 16) = false := by simp [n16]
    have n17 : ¬ op = 17 := by omega
    have b17 : (op == 17) = false := by simp [n17]
    have n18 : ¬ op = 18 := by omega
    have b18 : (op == 18) = false := by simp [n18]
    have n19 : ¬ op = 19 := by omega
    have b19 : (op == 19) = false := by simp [n19]
    have n20 : ¬ op = 20 := by omega
    have b20 : (op == 20) = false := by simp [n20]
    have n21 : ¬ op = 21 := by omega
    have b21 : (op == 21) = false := by simp [n21]
    have n22 : ¬ op = 22 := by omega
    have b22 : (op == 22) = false := by simp [n22]
    have n23 : ¬ op = 23 := by omega
    have b23 : (op == 23) = false := by simp [n23]
    have n24 : ¬ op = 24 := by omega
    have b24 : (op == 24) = false := by simp [n24]
    have n25 : ¬ op = 25 := by omega
    have b25 : (op == 25) = false := by simp [n25]
    have n26 : ¬ op = 26 := by omega
    have b26 : (op == 26) = false := by simp [n26]
    have n27 : ¬ op = 27 := by omega
    have b27 : (op == 27) = false := by simp [n27]
    have n28 : ¬ op = 28 := by omega
    have b28 : (op == 28) = false := by simp [n28]
    have n29 : ¬ op = 29 := by omega
    have b29 : (op == 29) = false := by simp [n29]
    have f0 : 2 ≤ op := by omega
    have f1 : ¬ op ≤ 7 := by omega
    have f2 : ¬ (2 ≤ op ∧ op ≤ 7) := by omega
    simp (disch := omega) [Tryz.f104, hk, takesL, intsOf, bs2, f0, f1, f2, n1, b1, n2, b2, n3, b3, n4, b4, n5, b5, n6, b6, n7, b7, n8, b8, n9, b9, n10, b10, n11, b11, n12, b12, n13, b13, n14, b14, n15, b15, n16, b16, n17, b17, n18, b18, n19, b19, n20, b20, n21, b21, n22, b22, n23, b23, n24, b24, n25, b25, n26, b26, n27, b27, n28, b28, n29, b29, -getElem?_pos]
  all_goals (simp (disch := omega) [Tryz.f104, hk, takesL, intsOf, bs2, -getElem?_pos])
theorem most7 (h : Heap) (op : Int) : CX 75 [I op] h = some (.one (.int .i64 (mostF op)), h, []) := by
  refine CI_of Tryz.func75 rfl 0 ?_
  have hk : cfg.keep 75 = 0 := rfl
  have hc : op = 1 ∨ op = 2 ∨ op = 3 ∨ op = 4 ∨ op = 5 ∨ op = 6 ∨ op = 7 ∨ op = 8 ∨ op = 9 ∨ op = 10 ∨ op = 11 ∨ op = 12 ∨ op = 13 ∨ op = 14 ∨ op = 15 ∨ op = 16 ∨ op = 17 ∨ op = 18 ∨ op = 19 ∨ op = 20 ∨ op = 21 ∨ op = 22 ∨ op = 23 ∨ op = 24 ∨ op = 25 ∨ op = 26 ∨ op = 27 ∨ op = 28 ∨ op = 29 ∨ (op < 1 ∨ 29 < op) := by omega
  rcases hc with rfl | rfl | rfl | rfl | rfl | rfl | rfl | rfl | rfl | rfl | rfl | rfl | rfl | rfl | rfl | rfl | rfl | rfl | rfl | rfl | rfl | rfl | rfl | rfl | rfl | rfl | rfl | rfl | rfl | h0
  rotate_right
  rcases h0 with h0 | h0
  · have _x := 0
    have n1 : ¬ op = 1 := by omega
    have b1 : (op == 1) = false := by simp [n1]
    have n2 : ¬ op = 2 := by omega
    have b2 : (op == 2) = false := by simp [n2]
    have n3 : ¬ op = 3 := by omega
    have b3 : (op == 3) = false := by simp [n3]
    have n4 : ¬ op = 4 := by omega
    have b4 : (op == 4) = false := by simp [n4]
    have n5 : ¬ op = 5 := by omega
    have b5 : (op == 5) = false := by simp [n5]
    have n6 : ¬ op = 6 := by omega
    have b6 : (op == 6) = false := by simp [n6]
    have n7 : ¬ op = 7 := by omega
    have b7 : (op == 7) = false := by simp [n7]
    have n8 : ¬ op = 8 := by omega
    have b8 : (op == 8) = false := by simp [n8]
    have n9 : ¬ op = 9 := by omega
    have b9 : (op == 9) = false := by simp [n9]
    have n10 : ¬ op = 10 := by omega
    have b10 : (op == 10) = false := by simp [n10]
    have n11 : ¬ op = 11 := by omega
    have b11 : (op == 11) = false := by simp [n11]
    have n12 : ¬ op = 12 := by omega
    have b12 : (op == 12) = false := by simp [n12]
    have n13 : ¬ op = 13 := by omega
    have b13 : (op == 13) = false := by simp [n13]
    have n14 : ¬ op = 14 := by omega
    have b14 : (op == 14) = false := by simp [n14]
    have n15 : ¬ op = 15 := by omega
    have b15 : (op == 15) = false := by simp [n15]
    have n16 : ¬ op = 16 := by omega
    have b16 : (op == 16) = false := by simp [n16]
    have n17 : ¬ op = 17 := by omega
    have b17 : (op == 17) = false := by simp [n17]
    have n18 : ¬ op = 18 := by omega
    have b18 : (op == 18) = false := by simp [n18]
    have n19 : ¬ op = 19 := by omega
    have b19 : (op == 19) = false := by simp [n19]
    have n20 : ¬ op = 20 := by omega
    have b20 : (op == 20) = false := by simp [n20]
    have n21 : ¬ op = 21 := by omega
    have b21 : (op == 21) = false := by simp [n21]
    have n22 : ¬ op = 22 := by omega
    have b22 : (op == 22) = false := by simp [n22]
    have n23 : ¬ op = 23 := by omega
    have b23 : (op == 23) = false := by simp [n23]
    have n24 : ¬ op = 24 := by omega
    have b24 : (op == 24) = false := by simp [n24]
    have n25 : ¬ op = 25 := by omega
    have b25 : (op == 25) = false := by simp [n25]
    have n26 : ¬ op = 26 := by omega
    have b26 : (op == 26) = false := by simp [n26]
    have n27 : ¬ op = 27 := by omega
    have b27 : (op == 27) = false := by simp [n27]
    have n28 : ¬ op = 28 := by omega
    have b28 : (op == 28) = false := by simp [n28]
    have n29 : ¬ op = 29 := by omega
    have b29 : (op == 29) = false := by simp [n29]
    have f0 : ¬ (11 ≤ op ∧ op ≤ 15) := by omega
    simp (disch := omega) [Tryz.f75, hk, mostF, f0, n1, b1, n2, b2, n3, b3, n4, b4, n5, b5, n6, b6, n7, b7, n8, b8, n9, b9, n10, b10, n11, b11, n12, b12, n13, b13, n14, b14, n15, b15, n16, b16, n17, b17, n18, b18, n19, b19, n20, b20, n21, b21, n22, b22, n23, b23, n24, b24, n25, b25, n26, b26, n27, b27, n28, b28, n29, b29, -getElem?_pos]
  · have _x := 0
    have n1 : ¬ op = 1 := by omega
    have b1 : (op == 1) = false := by simp [n1]
    have n2 : ¬ op = 2 := by omega
    have b2 : (op == 2) = false := by simp [n2]
    have n3 : ¬ op = 3 := by omega
    have b3 : (op == 3) = false := by simp [n3]
    have n4 : ¬ op = 4 := by omega
    have b4 : (op == 4) = false := by simp [n4]
    have n5 : ¬ op = 5 := by omega
    have b5 : (op == 5) = false := by simp [n5]
    have n6 : ¬ op = 6 := by omega
    have b6 : (op == 6) = false := by simp [n6]
    have n7 : ¬ op = 7 := by omega
    have b7 : (op == 7) = false := by simp [n7]
    have n8 : ¬ op = 8 := by omega
    have b8 : (op == 8) = false := by simp [n8]
    have n9 : ¬ op = 9 := by omega
    have b9 : (op == 9) = false := by simp [n9]
    have n10 : ¬ op = 10 := by omega
    have b10 : (op == 10) = false := by simp [n10]
    have n11 : ¬ op = 11 := by omega
    have b11 : (op == 11) = false := by simp [n11]
    have n12 : ¬ op = 12 := by omega
    have b12 : (op == 12) = false := by simp [n12]
    have n13 : ¬ op = 13 := by omega
    have b13 : (op == 13) = false := by simp [n13]
    have n14 : ¬ op = 14 := by omega
    have b14 : (op == 14) = false := by simp [n14]
    have n15 : ¬ op = 15 := by omega
    have b15 : (op == 15) = false := by simp [n15]
    have n16 : ¬ op = 16 := by omega
    have b16 : (op == 16) = false := by simp [n16]
    have n17 : ¬ op = 17 := by omega
    have b17 : (op == 17) = false := by simp [n17]
    have n18 : ¬ op = 18 := by omega
    have b18 : (op == 18) = false := by simp [n18]
    have n19 : ¬ op = 19 := by omega
    have b19 : (op == 19) = false := by simp [n19]
    have n20 : ¬ op = 20 := by omega
    have b20 : (op == 20) = false := by simp [n20]
    have n21 : ¬ op = 21 := by omega
    have b21 : (op == 21) = false := by simp [n21]
    have n22 : ¬ op = 22 := by omega
    have b22 : (op == 22) = false := by simp [n22]
    have n23 : ¬ op = 23 := by omega
    have b23 : (op == 23) = false := by simp [n23]
    have n24 : ¬ op = 24 := by omega
    have b24 : (op == 24) = false := by simp [n24]
    have n25 : ¬ op = 25 := by omega
    have b25 : (op == 25) = false := by simp [n25]
    have n26 : ¬ op = 26 := by omega
    have b26 : (op == 26) = false := by simp [n26]
    have n27 : ¬ op = 27 := by omega
    have b27 : (op == 27) = false := by simp [n27]
    have n28 : ¬ op = 28 := by omega
    have b28 : (op == 28) = false := by simp [n28]
    have n29 : ¬ op = 29 := by omega
    have b29 : (op == 29) = false := by simp [n29]
    have f0 : ¬ (11 ≤ op ∧ op ≤ 15) := by omega
    simp (disch := omega) [Tryz.f75, hk, mostF, f0, n1, b1, n2, b2, n3, b3, n4, b4, n5, b5, n6, b6, n7, b7, n8, b8, n9, b9, n10, b10, n11, b11, n12, b12, n13, b13, n14, b14, n15, b15, n16, b16, n17, b17, n18, b18, n19, b19, n20, b20, n21, b21, n22, b22, n23, b23, n24, b24, n25, b25, n26, b26, n27, b27, n28, b28, n29, b29, -getElem?_pos]
  all_goals (simp (disch := omega) [Tryz.f75, hk, mostF, -getElem?_pos])
theorem makes5 (h : Heap) (op : Int) (x : Ins) (hx : x.op = op) : CX 18 [.agg (encIns x)] h = some (I (makesF op x.ty), h, []) := by
  refine CI_of Tryz.func18 rfl 0 ?_
  have hk : cfg.keep 18 = 0 := rfl
  have e1 := fun h => typed5 h op
  unfold typedB at e1
  have hc : op = 1 ∨ op = 2 ∨ op = 3 ∨ op = 4 ∨ op = 5 ∨ op = 6 ∨ op = 7 ∨ op = 8 ∨ op = 9 ∨ op = 10 ∨ op = 11 ∨ op = 12 ∨ op = 13 ∨ op = 14 ∨ op = 15 ∨ op = 16 ∨ op = 17 ∨ op = 18 ∨ op = 19 ∨ op = 20 ∨ op = 21 ∨ op = 22 ∨ op = 23 ∨ op = 24 ∨ op = 25 ∨ op = 26 ∨ op = 27 ∨ op = 28 ∨ op = 29 ∨ (op < 1 ∨ 29 < op) := by omega
  rcases hc with rfl | rfl | rfl | rfl | rfl | rfl | rfl | rfl | rfl | rfl | rfl | rfl | rfl | rfl | rfl | rfl | rfl | rfl | rfl | rfl | rfl | rfl | rfl | rfl | rfl | rfl | rfl | rfl | rfl | h0
  rotate_right
  rcases h0 with h0 | h0
  · have _x := 0
    have n1 : ¬ op = 1 := by omega
    have b1 : (op == 1) = false := by simp [n1]
    have n2 : ¬ op = 2 := by omega
    have b2 : (op == 2) = false := by simp [n2]
    have n3 : ¬ op = 3 := by omega
    have b3 : (op == 3) = false := by simp [n3]
    have n4 : ¬ op = 4 := by omega
    have b4 : (op == 4) = false := by simp [n4]
    have n5 : ¬ op = 5 := by omega
    have b5 : (op == 5) = false := by simp [n5]
    have n6 : ¬ op = 6 := by omega
    have b6 : (op == 6) = false := by simp [n6]
    have n7 : ¬ op = 7 := by omega
    have b7 : (op == 7) = false := by simp [n7]
    have n8 : ¬ op = 8 := by omega
    have b8 : (op == 8) = false := by simp [n8]
    have n9 : ¬ op = 9 := by omega
    have b9 : (op == 9) = false := by simp [n9]
    have n10 : ¬ op = 10 := by omega
    have b10 : (op == 10) = false := by simp [n10]
    have n11 : ¬ op = 11 := by omega
    have b11 : (op == 11) = false := by simp [n11]
    have n12 : ¬ op = 12 := by omega
    have b12 : (op == 12) = false := by simp [n12]
    have n13 : ¬ op = 13 := by omega
    have b13 : (op == 13) = false := by simp [n13]
    have n14 : ¬ op = 14 := by omega
    have b14 : (op == 14) = false := by simp [n14]
    have n15 : ¬ op = 15 := by omega
    have b15 : (op == 15) = false := by simp [n15]
    have n16 : ¬ op = 16 := by omega
    have b16 : (op == 16) = false := by simp [n16]
    have n17 : ¬ op = 17 := by omega
    have b17 : (op == 17) = false := by simp [n17]
    have n18 : ¬ op = 18 := by omega
    have b18 : (op == 18) = false := by simp [n18]
    have n19 : ¬ op = 19 := by omega
    have b19 : (op == 19) = false := by simp [n19]
    have n20 : ¬ op = 20 := by omega
    have b20 : (op == 20) = false := by simp [n20]
    have n21 : ¬ op = 21 := by omega
    have b21 : (op == 21) = false := by simp [n21]
    have n22 : ¬ op = 22 := by omega
    have b22 : (op == 22) = false := by simp [n22]
    have n23 : ¬ op = 23 := by omega
    have b23 : (op == 23) = false := by simp [n23]
    have n24 : ¬ op = 24 := by omega
    have b24 : (op == 24) = false := by simp [n24]
    have n25 : ¬ op = 25 := by omega
    have b25 : (op == 25) = false := by simp [n25]
    have n26 : ¬ op = 26 := by omega
    have b26 : (op == 26) = false := by simp [n26]
    have n27 : ¬ op = 27 := by omega
    have b27 : (op == 27) = false := by simp [n27]
    have n28 : ¬ op = 28 := by omega
    have b28 : (op == 28) = false := by simp [n28]
    have n29 : ¬ op = 29 := by omega
    have b29 : (op == 29) = false := by simp [n29]
    have f0 : ¬ ((1 ≤ op ∧ op ≤ 7) ∨ op = 9 ∨ op = 11 ∨ op = 16) := by omega
    simp (disch := omega) [Tryz.f18, hk, makesF, hx, encIns, e1, f0, n1, b1, n2, b2, n3, b3, n4, b4, n5, b5, n6, b6, n7, b7, n8, b8, n9, b9, n10, b10, n11, b11, n12, b12, n13, b13, n14, b14, n15, b15, n16, b16, n17, b17, n18, b18, n19, b19, n20, b20, n21, b21, n22, b22, n23, b23, n24, b24, n25, b25, n26, b26, n27, b27, n28, b28, n29, b29, -getElem?_pos]
    try omega
  · have _x := 0
    have n1 : ¬ op = 1 := by omega
    have b1 : (op == 1) = false := by simp [n1]
    have n2 : ¬ op = 2 := by omega
    have b2 : (op == 2) = false := by simp [n2]
    have n3 : ¬ op = 3 := by omega
    have b3 : (op == 3) = false := by simp [n3]
    have n4 : ¬ op = 4 := by omega
    have b4 : (op == 4) = false := by simp [n4]
    have n5 : ¬ op = 5 := by omega
    have b5 : (op == 5) = false := by simp [n5]
    have n6 : ¬ op = 6 := by omega
    have b6 : (op == 6) = false := by simp [n6]
    have n7 : ¬ op = 7 := by omega
    have b7 : (op == 7) = false := by simp [n7]
    have n8 : ¬ op = 8 := by omega
    have b8 : (op == 8) = false := by simp [n8]
    have n9 : ¬ op = 9 := by omega
    have b9 : (op == 9) = false := by simp [n9]
    have n10 : ¬ op = 10 := by omega
    have b10 : (op == 10) = false := by simp [n10]
    have n11 : ¬ op = 11 := by omega
    have b11 : (op == 11) = false := by simp [n11]
    have n12 : ¬ op = 12 := by omega
    have b12 : (op == 12) = false := by simp [n12]
    have n13 : ¬ op = 13 := by omega
    have b13 : (op == 13) = false := by simp [n13]
    have n14 : ¬ op = 14 := by omega
    have b14 : (op == 14) = false := by simp [n14]
    have n15 : ¬ op = 15 := by omega
    have b15 : (op == 15) = false := by simp [n15]
    have n16 : ¬ op = 16 := by omega
    have b16 : (op == 16) = false := by simp [n16]
    have n17 : ¬ op = 17 := by omega
    have b17 : (op == 17) = false := by simp [n17]
    have n18 : ¬ op = 18 := by omega
    have b18 : (op == 18) = false := by simp [n18]
    have n19 : ¬ op = 19 := by omega
    have b19 : (op == 19) = false := by simp [n19]
    have n20 : ¬ op = 20 := by omega
    have b20 : (op == 20) = false := by simp [n20]
    have n21 : ¬ op = 21 := by omega
    have b21 : (op == 21) = false := by simp [n21]
    have n22 : ¬ op = 22 := by omega
    have b22 : (op == 22) = false := by simp [n22]
    have n23 : ¬ op = 23 := by omega
    have b23 : (op == 23) = false := by simp [n23]
    have n24 : ¬ op = 24 := by omega
    have b24 : (op == 24) = false := by simp [n24]
    have n25 : ¬ op = 25 := by omega
    have b25 : (op == 25) = false := by simp [n25]
    have n26 : ¬ op = 26 := by omega
    have b26 : (op == 26) = false := by simp [n26]
    have n27 : ¬ op = 27 := by omega
    have b27 : (op == 27) = false := by simp [n27]
    have n28 : ¬ op = 28 := by omega
    have b28 : (op == 28) = false := by simp [n28]
    have n29 : ¬ op = 29 := by omega
    have b29 : (op == 29) = false := by simp [n29]
    have f0 : ¬ ((1 ≤ op ∧ op ≤ 7) ∨ op = 9 ∨ op = 11 ∨ op = 16) := by omega
    simp (disch := omega) [Tryz.f18, hk, makesF, hx, encIns, e1, f0, n1, b1, n2, b2, n3, b3, n4, b4, n5, b5, n6, b6, n7, b7, n8, b8, n9, b9, n10, b10, n11, b11, n12, b12, n13, b13, n14, b14, n15, b15, n16, b16, n17, b17, n18, b18, n19, b19, n20, b20, n21, b21, n22, b22, n23, b23, n24, b24, n25, b25, n26, b26, n27, b27, n28, b28, n29, b29, -getElem?_pos]
    try omega
  all_goals (simp (disch := omega) [Tryz.f18, hk, makesF, hx, encIns, e1, -getElem?_pos])
theorem counts7 (h : Heap) (x : Ins) (hA : x.args.length ≤ 17592186044416) (hB : x.to.length ≤ 17592186044416) : CX 74 [.agg (encIns x)] h = some (Bo (countsB x.op x.args.length x.to.length), h, []) := by
  have hk : cfg.keep 74 = 0 := rfl
  have e1 := fun h => takes5 h x.op
  refine CI_of Tryz.func74 rfl 0 ?_
  obtain ⟨op, id, n, ty, args, to, name, at_⟩ := x
  simp only at hA hB e1 ⊢
  have la : (intsOf args).length = args.length := intsOf_length _
  have lb : (intsOf to).length = to.length := intsOf_length _
  generalize hia : intsOf args = ia at *
  generalize hib : intsOf to = ib at *
  have lm : (intsOf (takesL op)).length = (takesL op).length := intsOf_length _
  unfold countsB
  have hmx : (takesL op).length ≤ 2 := by unfold takesL; (repeat' split) <;> simp
  generalize (takesL op).length = m at *
  generalize intsOf (takesL op) = im at *
  generalize args.length = a at *
  generalize to.length = b at *
  by_cases q20 : op = 20
  · subst q20
    by_cases c0 : 1 ≤ b
    · have d0 : ((1 : Int) ≤ (b : Int)) := by omega
      by_cases c1 : a = b
      · have d1 : ((a : Int) = (b : Int)) := by omega
        have e1_ : (((a : Int) == (b : Int))) = true := by simp; omega
        simp (disch := omega) [Tryz.f74, hk, encIns, hia, hib, la, lb, lm, e1, c0, d0, c1, d1, e1_, -getElem?_pos]
      · have d1 : ¬ ((a : Int) = (b : Int)) := by omega
        have e1_ : (((a : Int) == (b : Int))) = false := by simp; omega
        simp (disch := omega) [Tryz.f74, hk, encIns, hia, hib, la, lb, lm, e1, c0, d0, c1, d1, e1_, -getElem?_pos]
    · have d0 : ¬ ((1 : Int) ≤ (b : Int)) := by omega
      by_cases c1 : a = b
      · have d1 : ((a : Int) = (b : Int)) := by omega
        have e1_ : (((a : Int) == (b : Int))) = true := by simp; omega
        simp (disch := omega) [Tryz.f74, hk, encIns, hia, hib, la, lb, lm, e1, c0, d0, c1, d1, e1_, -getElem?_pos]
      · have d1 : ¬ ((a : Int) = (b : Int)) := by omega
        have e1_ : (((a : Int) == (b : Int))) = false := by simp; omega
        simp (disch := omega) [Tryz.f74, hk, encIns, hia, hib, la, lb, lm, e1, c0, d0, c1, d1, e1_, -getElem?_pos]
  have r20 : (op == 20) = false := by simp [q20]
  by_cases q21 : op = 21
  · subst q21
    by_cases c0 : b = 0
    · have d0 : ((b : Int) = 0) := by omega
      have e0_ : (((b : Int) == 0)) = true := by simp; omega
      simp (disch := omega) [Tryz.f74, hk, encIns, hia, hib, la, lb, lm, e1, c0, d0, e0_, -getElem?_pos]
    · have d0 : ¬ ((b : Int) = 0) := by omega
      have e0_ : (((b : Int) == 0)) = false := by simp; omega
      simp (disch := omega) [Tryz.f74, hk, encIns, hia, hib, la, lb, lm, e1, c0, d0, e0_, -getElem?_pos]
  have r21 : (op == 21) = false := by simp [q21]
  by_cases q28 : op = 28
  · subst q28
    by_cases c0 : a ≤ 1
    · have d0 : ((a : Int) ≤ 1) := by omega
      by_cases c1 : b = 0
      · have d1 : ((b : Int) = 0) := by omega
        have e1_ : (((b : Int) == 0)) = true := by simp; omega
        simp (disch := omega) [Tryz.f74, hk, encIns, hia, hib, la, lb, lm, e1, c0, d0, c1, d1, e1_, -getElem?_pos]
      · have d1 : ¬ ((b : Int) = 0) := by omega
        have e1_ : (((b : Int) == 0)) = false := by simp; omega
        simp (disch := omega) [Tryz.f74, hk, encIns, hia, hib, la, lb, lm, e1, c0, d0, c1, d1, e1_, -getElem?_pos]
    · have d0 : ¬ ((a : Int) ≤ 1) := by omega
      by_cases c1 : b = 0
      · have d1 : ((b : Int) = 0) := by omega
        have e1_ : (((b : Int) == 0)) = true := by simp; omega
        simp (disch := omega) [Tryz.f74, hk, encIns, hia, hib, la, lb, lm, e1, c0, d0, c1, d1, e1_, -getElem?_pos]
      · have d1 : ¬ ((b : Int) = 0) := by omega
        have e1_ : (((b : Int) == 0)) = false := by simp; omega
        simp (disch := omega) [Tryz.f74, hk, encIns, hia, hib, la, lb, lm, e1, c0, d0, c1, d1, e1_, -getElem?_pos]
  have r28 : (op == 28) = false := by simp [q28]
  by_cases q24 : op = 24
  · subst q24
    by_cases c0 : a = 1
    · have d0 : ((a : Int) = 1) := by omega
      have e0_ : (((a : Int) == 1)) = true := by simp; omega
      by_cases c1 : b = 0
      · have d1 : ((b : Int) = 0) := by omega
        have e1_ : (((b : Int) == 0)) = true := by simp; omega
        simp (disch := omega) [Tryz.f74, hk, encIns, hia, hib, la, lb, lm, e1, c0, d0, e0_, c1, d1, e1_, -getElem?_pos]
      · have d1 : ¬ ((b : Int) = 0) := by omega
        have e1_ : (((b : Int) == 0)) = false := by simp; omega
        simp (disch := omega) [Tryz.f74, hk, encIns, hia, hib, la, lb, lm, e1, c0, d0, e0_, c1, d1, e1_, -getElem?_pos]
    · have d0 : ¬ ((a : Int) = 1) := by omega
      have e0_ : (((a : Int) == 1)) = false := by simp; omega
      by_cases c1 : b = 0
      · have d1 : ((b : Int) = 0) := by omega
        have e1_ : (((b : Int) == 0)) = true := by simp; omega
        simp (disch := omega) [Tryz.f74, hk, encIns, hia, hib, la, lb, lm, e1, c0, d0, e0_, c1, d1, e1_, -getElem?_pos]
      · have d1 : ¬ ((b : Int) = 0) := by omega
        have e1_ : (((b : Int) == 0)) = false := by simp; omega
        simp (disch := omega) [Tryz.f74, hk, encIns, hia, hib, la, lb, lm, e1, c0, d0, e0_, c1, d1, e1_, -getElem?_pos]
  have r24 : (op == 24) = false := by simp [q24]
  by_cases q26 : op = 26
  · subst q26
    by_cases c0 : a = 0
    · have d0 : ((a : Int) = 0) := by omega
      have e0_ : (((a : Int) == 0)) = true := by simp; omega
      by_cases c1 : b = 1
      · have d1 : ((b : Int) = 1) := by omega
        have e1_ : (((b : Int) == 1)) = true := by simp; omega
        simp (disch := omega) [Tryz.f74, hk, encIns, hia, hib, la, lb, lm, e1, c0, d0, e0_, c1, d1, e1_, -getElem?_pos]
      · have d1 : ¬ ((b : Int) = 1) := by omega
        have e1_ : (((b : Int) == 1)) = false := by simp; omega
        simp (disch := omega) [Tryz.f74, hk, encIns, hia, hib, la, lb, lm, e1, c0, d0, e0_, c1, d1, e1_, -getElem?_pos]
    · have d0 : ¬ ((a : Int) = 0) := by omega
      have e0_ : (((a : Int) == 0)) = false := by simp; omega
      by_cases c1 : b = 1
      · have d1 : ((b : Int) = 1) := by omega
        have e1_ : (((b : Int) == 1)) = true := by simp; omega
        simp (disch := omega) [Tryz.f74, hk, encIns, hia, hib, la, lb, lm, e1, c0, d0, e0_, c1, d1, e1_, -getElem?_pos]
      · have d1 : ¬ ((b : Int) = 1) := by omega
        have e1_ : (((b : Int) == 1)) = false := by simp; omega
        simp (disch := omega) [Tryz.f74, hk, encIns, hia, hib, la, lb, lm, e1, c0, d0, e0_, c1, d1, e1_, -getElem?_pos]
  have r26 : (op == 26) = false := by simp [q26]
  by_cases q27 : op = 27
  · subst q27
    by_cases c0 : a = 1
    · have d0 : ((a : Int) = 1) := by omega
      have e0_ : (((a : Int) == 1)) = true := by simp; omega
      by_cases c1 : b = 2
      · have d1 : ((b : Int) = 2) := by omega
        have e1_ : (((b : Int) == 2)) = true := by simp; omega
        simp (disch := omega) [Tryz.f74, hk, encIns, hia, hib, la, lb, lm, e1, c0, d0, e0_, c1, d1, e1_, -getElem?_pos]
      · have d1 : ¬ ((b : Int) = 2) := by omega
        have e1_ : (((b : Int) == 2)) = false := by simp; omega
        simp (disch := omega) [Tryz.f74, hk, encIns, hia, hib, la, lb, lm, e1, c0, d0, e0_, c1, d1, e1_, -getElem?_pos]
    · have d0 : ¬ ((a : Int) = 1) := by omega
      have e0_ : (((a : Int) == 1)) = false := by simp; omega
      by_cases c1 : b = 2
      · have d1 : ((b : Int) = 2) := by omega
        have e1_ : (((b : Int) == 2)) = true := by simp; omega
        simp (disch := omega) [Tryz.f74, hk, encIns, hia, hib, la, lb, lm, e1, c0, d0, e0_, c1, d1, e1_, -getElem?_pos]
      · have d1 : ¬ ((b : Int) = 2) := by omega
        have e1_ : (((b : Int) == 2)) = false := by simp; omega
        simp (disch := omega) [Tryz.f74, hk, encIns, hia, hib, la, lb, lm, e1, c0, d0, e0_, c1, d1, e1_, -getElem?_pos]
  have r27 : (op == 27) = false := by simp [q27]
  by_cases c0 : a = m
  · have d0 : ((a : Int) = (m : Int)) := by omega
    have e0_ : (((a : Int) == (m : Int))) = true := by simp; omega
    by_cases c1 : b = 0
    · have d1 : ((b : Int) = 0) := by omega
      have e1_ : (((b : Int) == 0)) = true := by simp; omega
      simp (disch := omega) [Tryz.f74, hk, encIns, hia, hib, la, lb, lm, e1, q20, r20, q21, r21, q28, r28, q24, r24, q26, r26, q27, r27, c0, d0, e0_, c1, d1, e1_, -getElem?_pos]
    · have d1 : ¬ ((b : Int) = 0) := by omega
      have e1_ : (((b : Int) == 0)) = false := by simp; omega
      simp (disch := omega) [Tryz.f74, hk, encIns, hia, hib, la, lb, lm, e1, q20, r20, q21, r21, q28, r28, q24, r24, q26, r26, q27, r27, c0, d0, e0_, c1, d1, e1_, -getElem?_pos]
  · have d0 : ¬ ((a : Int) = (m : Int)) := by omega
    have e0_ : (((a : Int) == (m : Int))) = false := by simp; omega
    by_cases c1 : b = 0
    · have d1 : ((b : Int) = 0) := by omega
      have e1_ : (((b : Int) == 0)) = true := by simp; omega
      simp (disch := omega) [Tryz.f74, hk, encIns, hia, hib, la, lb, lm, e1, q20, r20, q21, r21, q28, r28, q24, r24, q26, r26, q27, r27, c0, d0, e0_, c1, d1, e1_, -getElem?_pos]
    · have d1 : ¬ ((b : Int) = 0) := by omega
      have e1_ : (((b : Int) == 0)) = false := by simp; omega
      simp (disch := omega) [Tryz.f74, hk, encIns, hia, hib, la, lb, lm, e1, q20, r20, q21, r21, q28, r28, q24, r24, q26, r26, q27, r27, c0, d0, e0_, c1, d1, e1_, -getElem?_pos]
end Go.Proofs.YtkbdhjfjbkmkcaaGreat.Abs
