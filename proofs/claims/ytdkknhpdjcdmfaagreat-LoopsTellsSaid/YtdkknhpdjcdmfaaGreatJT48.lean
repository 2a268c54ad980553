/- YtdkknhpdjcdmfaaGreatJT48: texts that follow each other, as one. -/
import Derived.Test.YtdkknhpdjcdmfaaGreatJT47
/- The loops, those that are within others ahead of these: as the document tells it. -/
set_option linter.unusedSimpArgs false
set_option linter.unusedVariables false
set_option linter.unusedSectionVars false
namespace Go.Proofs.YtdkknhpdjcdmfaaGreat.Abs
open Go Go.RowKit Go.Proofs

theorem view_out {h t : Heap} {out : List Int} {off len : Nat} (hl : off + len ≤ out.length) : view (h ++ some (.row 1 (intsOf out)) :: t) (.sl h.length 1 out.length off len) = some (intsOf ((out.drop off).take len)) := by
  have hr : rowAt (h ++ some (.row 1 (intsOf out)) :: t) h.length out.length = some (1, intsOf out) := by simp [rowAt]
  show ((rowAt (h ++ some (.row 1 (intsOf out)) :: t) h.length out.length).bind fun r => if r.1 = 1 ∧ off + len ≤ out.length then some ((r.2.drop off).take len) else none) = _
  rw [hr]
  simp [hl, intsOf, List.map_drop, List.map_take]
theorem sl_to (id n k : Nat) (hk : k ≤ n) : sliceV Tryz.prog 41 (.one (.sl id 1 n 0 n)) none (some (I (k : Nat))) none = some (.one (.sl id 1 n 0 k)) := by
  have hu : Tryz.prog.underlying 41 = some (.slice 3) := by kernel_rfl
  have hs : tsize Tryz.prog 3 = some 1 := by kernel_rfl
  have hb : boundsV n none (some (I (k : Nat))) none = some (0, k, none) := by simp [boundsV, optNat, natOf]
  unfold sliceV
  rw [hu]
  simp only [hb, Option.bind_some, hs]
  simp [hk]
theorem sl_from (id n k : Nat) (hk : k ≤ n) : sliceV Tryz.prog 41 (.one (.sl id 1 n 0 n)) (some (I (k : Nat))) none none = some (.one (.sl id 1 n k (n - k))) := by
  have hu : Tryz.prog.underlying 41 = some (.slice 3) := by kernel_rfl
  have hs : tsize Tryz.prog 3 = some 1 := by kernel_rfl
  have hb : boundsV n (some (I (k : Nat))) none none = some (k, n, none) := by simp [boundsV, optNat, natOf, hk]
  unfold sliceV
  rw [hu]
  simp only [hb, Option.bind_some, hs]
  simp

def riS (h : Heap) (ls : List Lp) (i : Nat) (o5 : Option Nat) (out : List Int) : St :=
  ⟨[(4, I (i : Nat)), (0, Sl (lpsOf ls)), (5, natV o5), (3, .one (.sl h.length 1 out.length 0 out.length))], h ++ [some (.row 1 (intsOf out))], []⟩
theorem ri_in (h : Heap) (ls : List Lp) (hl : ls.length ≤ 1000) (hb : ∀ x, x ∈ ls → x.blocks.length ≤ 100000) (i : Nat) (hi : i < ls.length) (out : List Int) (hol : out.length ≤ 1000) (hv : ∀ v, v ∈ out → 0 ≤ v ∧ v.toNat < ls.length) :
    lpK 45 Tryz.f45 52 1 h (riS h ls i (some 0) out) = some (.exit 2, riS h ls i (some (kN (keyL ls) (i : Int) out)) out) := by
  have q := qt45
  simp [Tryz.f45, quietFn, quietRegs] at q
  obtain ⟨y, hy⟩ : ∃ y, ls[i]? = some y := ⟨_, List.getElem?_eq_getElem hi⟩
  have hky : keyL ls (i : Int) = y.blocks.length := by unfold keyL; rw [Int.toNat_natCast, hy]
  have hkl := kN_le (keyL ls) (i : Int) out
  have key := loop_fun (P := Tryz.prog) (C := cfg) (sc := runScope Tryz.prog cfg 52 h.length (cfg.live 45) 0) (N := 52) (n0 := h.length) (K := cfg.live 45) (c := loopAt Tryz.f45 1)
    (fun k : Nat => riS h ls i (some k) out) (fun k => k ≤ kN (keyL ls) (i : Int) out) (fun k => out.length - k) (fun _ => (.exit 2, riS h ls i (some (kN (keyL ls) (i : Int) out)) out)) ?_ 0 (Nat.zero_le _)
  · exact key
  intro k hk
  rcases Nat.lt_or_ge k out.length with hlt | hge
  · have hltI : ((k : Nat) : Int) < ((out.length : Nat) : Int) := by omega
    obtain ⟨v, hvv⟩ : ∃ v, out[k]? = some v := ⟨_, List.getElem?_eq_getElem hlt⟩
    obtain ⟨v0, vl⟩ := hv v (List.mem_of_getElem? hvv)
    obtain ⟨z, hz⟩ : ∃ z, ls[v.toNat]? = some z := ⟨_, List.getElem?_eq_getElem vl⟩
    have hkz : keyL ls v = z.blocks.length := by unfold keyL; rw [hz]
    by_cases hkk : k < kN (keyL ls) (i : Int) out
    · have hle := kN_lt hkk hvv
      rw [hkz, hky] at hle
      have hleI : ((z.blocks.length : Nat) : Int) ≤ ((y.blocks.length : Nat) : Int) := by omega
      refine .inl ⟨k + 1, ?_, hkk, by omega, rfl⟩
      simp (disch := omega) [round_eq, riS, encLp, Tryz.f45, lv45, q, hlt, hltI, hvv, hz, hy, v0, vl, hi, hle, hleI, wrap_i64, -getElem?_pos]
    · have hke : k = kN (keyL ls) (i : Int) out := by omega
      have hle : ¬ keyL ls v ≤ keyL ls (i : Int) := kN_at (by rw [← hke]; exact hvv)
      rw [hkz, hky] at hle
      have hleI : ¬ ((z.blocks.length : Nat) : Int) ≤ ((y.blocks.length : Nat) : Int) := by omega
      rw [← hke]
      refine .inr ⟨?_, nofun⟩
      simp (disch := omega) [round_eq, riS, encLp, Tryz.f45, lv45, q, hlt, hltI, hvv, hz, hy, v0, vl, hi, hle, hleI, wrap_i64, -getElem?_pos]
  · have hke : k = kN (keyL ls) (i : Int) out := by omega
    have hko : k = out.length := by omega
    rw [← hke]
    subst hko
    refine .inr ⟨?_, nofun⟩
    simp (disch := omega) [round_eq, riS, encLp, Tryz.f45, lv45, q, wrap_i64, -getElem?_pos]

theorem ri_out (h : Heap) (ls : List Lp) (hl : ls.length ≤ 1000) (hb : ∀ x, x ∈ ls → x.blocks.length ≤ 100000) :
    ∃ o, lpK 45 Tryz.f45 52 0 h (riS h ls 0 none []) = some (.exit 0, riS h ls ls.length o (innF (keyL ls) ls.length)) := by
  have q := qt45
  simp [Tryz.f45, quietFn, quietRegs] at q
  have key := loop_rel (P := Tryz.prog) (C := cfg) (sc := runScope Tryz.prog cfg 52 h.length (cfg.live 45) 0) (N := 52) (n0 := h.length) (K := cfg.live 45) (c := loopAt Tryz.f45 0)
    (fun s : Nat × Option Nat => riS h ls s.1 s.2 (innF (keyL ls) s.1)) (fun s => s.1 ≤ ls.length) (fun s => ls.length - s.1)
    (fun _ r => ∃ o, r = (.exit 0, riS h ls ls.length o (innF (keyL ls) ls.length))) ?_ (0, none) (Nat.zero_le _)
  · obtain ⟨r, h1, o, rfl⟩ := key
    exact ⟨o, h1⟩
  rintro ⟨i, o⟩ j1
  simp only at j1 ⊢
  have hol := innF_len (keyL ls) i
  have hmem := fun v => innF_mem (key := keyL ls) (w := v) i
  rcases Nat.lt_or_ge i ls.length with hlt | hge
  · have hltI : ((i : Nat) : Int) < ((ls.length : Nat) : Int) := by omega
    have e := ri_in h ls hl hb i hlt (innF (keyL ls) i) (by omega) (fun v hv => by have := hmem v hv; omega)
    have hkl := kN_le (keyL ls) (i : Int) (innF (keyL ls) i)
    have hcut := insR_cut (keyL ls) (i : Int) (innF (keyL ls) i)
    refine .inl ⟨(i + 1, some (kN (keyL ls) (i : Int) (innF (keyL ls) i))), ?_, hlt, by simp only; omega, fun r h => h⟩
    rw [innF, hcut]
    generalize innF (keyL ls) i = out at *
    generalize kN (keyL ls) (i : Int) out = k at *
    clear hcut hmem
    have v1 := fun t : Heap => view_out (h := h) (t := t) (out := out) (off := 0) (len := k) (by omega)
    have v2 := fun t : Heap => view_out (h := h) (t := t) (out := out) (off := k) (len := out.length - k) (by omega)
    have htk : (out.drop k).take (out.length - k) = out.drop k := List.take_of_length_le (by simp)
    rw [htk] at v2
    simp only [List.drop_zero] at v1
    have s1 := sl_to h.length out.length k hkl
    have s2 := sl_from h.length out.length k hkl
    have htl : (out.take k).length = k := by simp; omega
    have hdl : (out.drop k).length = out.length - k := by simp
    have hfin : out.take k ++ (i : Int) :: out.drop k = (out.take k ++ [(i : Int)]) ++ out.drop k := by simp
    rw [hfin]
    by_cases hk0 : k = 0
    · subst hk0
      have s1' : sliceV Tryz.prog 41 (.one (.sl h.length 1 out.length 0 out.length)) none (some (I 0)) none = some (.one (.sl h.length 1 out.length 0 0)) := sl_to h.length out.length 0 (Nat.zero_le _)
      have s2' : sliceV Tryz.prog 41 (.one (.sl h.length 1 out.length 0 out.length)) (some (I 0)) none none = some (.one (.sl h.length 1 out.length 0 out.length)) := sl_from h.length out.length 0 (Nat.zero_le _)
      simp [riS, lpK, lv45, Tryz.f45] at e
      clear s1 s2 v2 htl hdl htk
      simp only [List.take_zero, List.nil_append, List.drop_zero, intsOf_nil] at v1 ⊢
      by_cases hd0 : out.length = 0
      · have ho : out = [] := List.length_eq_zero_iff.1 hd0
        subst ho
        simp at e s1' s2' v1
        have hz : intsOf [(i : Int)] = [[Leaf.int .i64 (i : Int)]] := rfl
        cases o <;> simp (disch := (first | omega | simp (disch := omega) [])) [round_eq, riS, encLp, Tryz.f45, lv45, hlt, hltI, e, v1, s1', s2', room_of, hz, wrap_i64, -getElem?_pos]
      · have hne : intsOf out ≠ [] := fun h' => hd0 (by have := congrArg List.length h'; simpa using this)
        have hne2 : out ≠ [] := fun h' => hd0 (by rw [h']; rfl)
        have hz : [[Leaf.int .i64 (i : Int)]] ++ intsOf out = intsOf ([(i : Int)] ++ out) := by simp [intsOf]
        have hz' : [Leaf.int .i64 (i : Int)] :: intsOf out = intsOf ((i : Int) :: out) := by simp [intsOf]
        cases o <;> simp (disch := (first | omega | simp (disch := omega) [])) [round_eq, riS, encLp, Tryz.f45, lv45, hlt, hltI, e, v1, s1', s2', hd0, hne, hne2, room_of, hz, hz', wrap_i64, -getElem?_pos] <;> omega
    · simp [riS, lpK, lv45, Tryz.f45] at e
      have htne : intsOf (out.take k) ≠ [] := fun h' => hk0 (by
        have := congrArg List.length h'
        rw [intsOf_length, htl] at this
        exact this)
      by_cases hd0 : out.length = k
      · subst hd0
        have hdd : out.drop out.length = [] := List.drop_length
        have htt : out.take out.length = out := List.take_length
        simp only [hdd, htt, Nat.sub_self, intsOf_nil, List.append_nil] at v1 v2 htl hdl htne s2 ⊢
        cases o <;> simp (disch := (first | omega | simp (disch := omega) [])) [round_eq, riS, encLp, Tryz.f45, lv45, hlt, hltI, e, v1, v2, s1, s2, htne, hk0, room_of, intsOf_snoc, wrap_i64, -getElem?_pos] <;> omega
      · have hdne : intsOf (out.drop k) ≠ [] := fun h' => hd0 (by
          have := congrArg List.length h'
          rw [intsOf_length, hdl] at this
          simp at this
          omega)
        have hkk : ¬ out.length - k = 0 := by omega
        have hkk2 : ¬ out.length ≤ k := by omega
        cases o <;> simp (disch := (first | omega | simp (disch := omega) [])) [round_eq, riS, encLp, Tryz.f45, lv45, hlt, hltI, e, v1, v2, s1, s2, htl, hdl, htne, hdne, hk0, hkk, hkk2, room_of, intsOf_snoc, intsOf_app, wrap_i64, -getElem?_pos] <;> omega
  · have : i = ls.length := by omega
    subst this
    refine .inr ⟨(.exit 0, riS h ls ls.length o (innF (keyL ls) ls.length)), ?_, nofun, o, rfl⟩
    generalize innF (keyL ls) ls.length = out at *
    cases o <;> simp (disch := omega) [round_eq, riS, Tryz.f45, lv45, q, -getElem?_pos]
theorem inner10 (h : Heap) (ls : List Lp) (hl : ls.length ≤ 1000) (hb : ∀ x, x ∈ ls → x.blocks.length ≤ 100000) :
    CX 45 [Sl (lpsOf ls)] h = some (Sl (intsOf (innF (keyL ls) ls.length)), h, []) := by
  obtain ⟨o, e⟩ := ri_out h ls hl hb
  refine CI_of Tryz.func45 rfl 0 ?_
  have hk : cfg.keep 45 = 0 := rfl
  generalize innF (keyL ls) ls.length = out at *
  cases o <;>
  (simp [riS, lpK, lv45, Tryz.f45] at e
   simp (disch := omega) [Tryz.f45, lv45, hk, e, -getElem?_pos])
end Go.Proofs.YtdkknhpdjcdmfaaGreat.Abs

/- Which loops a function has, which are within which, how deep a block is, from where each is entered: the law answers yes. -/
set_option linter.unusedSimpArgs false
set_option linter.unusedVariables false
set_option linter.unusedSectionVars false
namespace Go.Proofs.YtdkknhpdjcdmfaaGreat.Abs
open Go Go.RowKit Go.Proofs

theorem same10 (h : Heap) (ls : List Lp) (hl : ls.length ≤ 1000) (hb : ∀ x, x ∈ ls → x.blocks.length ≤ 100000 ∧ x.backs.length ≤ 100000) : CX 41 [Sl (lpsOf ls), Sl (lpsOf ls)] h = some (Bo true, h, []) := by
  have hk : cfg.keep 41 = 0 := rfl
  have q := qt41
  simp [Tryz.f41, quietFn, quietRegs] at q
  have key := loop_fun (P := Tryz.prog) (C := cfg) (sc := runScope Tryz.prog cfg 69 h.length (cfg.live 41) 0) (N := 69) (n0 := h.length) (K := cfg.live 41) (c := loopAt Tryz.f41 0)
    (fun i : Nat => ⟨[(0, Sl (lpsOf ls)), (1, Sl (lpsOf ls)), (5, I (i : Nat)), (4, Bo false)], h, []⟩) (fun i => i ≤ ls.length) (fun i => ls.length - i) (fun _ => (.exit 0, ⟨[(0, Sl (lpsOf ls)), (1, Sl (lpsOf ls)), (5, I (ls.length : Nat)), (4, Bo false)], h, []⟩)) ?_ 0 (Nat.zero_le _)
  · refine CI_of Tryz.func41 rfl 0 ?_
    simp [lv41, Tryz.f41] at key
    simp (disch := omega) [Tryz.f41, lv41, hk, q, key, -getElem?_pos]
  · intro i hi
    rcases Nat.lt_or_ge i ls.length with hlt | hge
    · have hltI : ((i : Nat) : Int) < ((ls.length : Nat) : Int) := by omega
      obtain ⟨x, hx⟩ : ∃ x, ls[i]? = some x := ⟨_, List.getElem?_eq_getElem hlt⟩
      obtain ⟨b1, b2⟩ := hb x (List.mem_of_getElem? hx)
      have f1 : Fit x.blocks := by show x.blocks.length ≤ _; omega
      have f2 : Fit x.backs := by show x.backs.length ≤ _; omega
      have e1 := fun h => ints h x.blocks x.blocks f1
      have e2 := fun h => ints h x.backs x.backs f2
      simp at e1 e2
      refine .inl ⟨i + 1, ?_, hlt, by omega, rfl⟩
      simp (disch := omega) [round_eq, encLp, Tryz.f41, lv41, q, hx, hlt, hltI, e1, e2, wrap_i64, -getElem?_pos]
    · have : i = ls.length := by omega
      subst this
      refine .inr ⟨?_, nofun⟩
      simp (disch := omega) [round_eq, Tryz.f41, lv41, q, -getElem?_pos]

def tlS (h : Heap) (f : Fn) (ls : List Lp) (i : Nat) : St := ⟨[(2, .one (.ptr h.length 1 0 0)), (6, Sl (lpsOf ls)), (7, I (i : Nat)), (4, Bo false)], h ++ [some (.row 5 [encFn f])], []⟩
theorem tl_loop (h : Heap) (f : Fn) (hf : f.Fine) (ls : List Lp) (hls : LsOK (f.blocks.map nextB) (f.blocks.map nextB).length ls) :
    lpK 8 Tryz.f8 57 0 h (tlS h f ls 0) = some (.exit 0, tlS h f ls ls.length) := by
  have q := qt8
  simp [Tryz.f8, quietFn, quietRegs] at q
  have hsl : (f.blocks.map nextB).length = f.blocks.length := by simp
  have hll := hls.len
  have hbl := hf.len
  have key := loop_fun (P := Tryz.prog) (C := cfg) (sc := runScope Tryz.prog cfg 57 h.length (cfg.live 8) 0) (N := 57) (n0 := h.length) (K := cfg.live 8) (c := loopAt Tryz.f8 0)
    (fun i : Nat => tlS h f ls i) (fun i => i ≤ ls.length) (fun i => ls.length - i) (fun _ => (.exit 0, tlS h f ls ls.length)) ?_ 0 (Nat.zero_le _)
  · exact key
  intro i hi
  rcases Nat.lt_or_ge i ls.length with hlt | hge
  · have hltI : ((i : Nat) : Int) < ((ls.length : Nat) : Int) := by omega
    obtain ⟨x, hx⟩ : ∃ x, ls[i]? = some x := ⟨_, List.getElem?_eq_getElem hlt⟩
    obtain ⟨L, hxb, _⟩ := hls.each x (List.mem_of_getElem? hx)
    obtain ⟨h0, h1⟩ := L.head
    have e1 := fun h => entry h f hf x (by omega) h0 (by omega)
    have e2 := fun h => entry10 h f hf x (by omega) h0 (by omega)
    refine .inl ⟨i + 1, ?_, hlt, by omega, rfl⟩
    generalize entF (f.blocks.map nextB) x = r at *
    simp [encFn, encLp] at e1 e2
    simp (disch := omega) [round_eq, tlS, encLp, encFn, Tryz.f8, lv8, q, hx, hlt, hltI, e1, e2, wrap_i64, -getElem?_pos]
  · have : i = ls.length := by omega
    subst this
    refine .inr ⟨?_, nofun⟩
    simp (disch := omega) [round_eq, tlS, encFn, Tryz.f8, lv8, q, -getElem?_pos]

theorem loopsTells (h : Heap) (f : Fn) (hf : f.Ok) (k : Int) : CX 8 [.agg (encFn f), I k] h = some (Bo true, h, []) := by
  have hk : cfg.keep 8 = 0 := rfl
  have q := qt8
  simp [Tryz.f8, quietFn, quietRegs] at q
  obtain ⟨b, e1, hb⟩ := light10 [] f hf
  refine CI_of Tryz.func8 rfl 0 ?_
  simp [encFn] at e1
  cases b with
  | false => simp (disch := omega) [Tryz.f8, lv8, hk, encFn, e1, works10, -getElem?_pos]
  | true =>
    obtain ⟨g1, g2, g3⟩ := hb rfl
    have hsl : (f.blocks.map nextB).length = f.blocks.length := by simp
    have l1 := loopsF_ok g1.edges
    have e2 := fun h => loopsOf' h f g1 g2 (by omega)
    have e3 := fun h => ofs10 h f g1 g2
    have hbk : ∀ x, x ∈ loopsF (f.blocks.map nextB) → x.blocks.length ≤ 100000 ∧ x.backs.length ≤ 100000 := fun x hx => by
      refine ⟨by have := (l1.each x hx).2.1; omega, ?_⟩
      obtain ⟨i, hi⟩ := List.getElem?_of_mem hx
      unfold loopsF at hi
      rw [finF_get] at hi
      obtain ⟨y, hy, rfl⟩ := Option.map_eq_some_iff.1 hi
      have key : ∀ (n : Nat) (z : Lp), z ∈ lpsN (f.blocks.map nextB) n → z.backs.length ≤ (f.blocks.map nextB).length := by
        intro n
        induction n with
        | zero => intro z hz; simp [lpsN] at hz
        | succ n ih =>
          intro z hz
          rw [lpsN] at hz
          split at hz
          · exact ih z hz
          · rcases List.mem_append.1 hz with hz | hz
            · exact ih z hz
            · rw [List.mem_singleton.1 hz]
              exact bkN_len _ _ _
      have := key _ y (List.mem_of_getElem? hy)
      simp only
      omega
    have hll := l1.len
    have e4 := tl_loop h f g1 (loopsF (f.blocks.map nextB)) l1
    generalize loopsF (f.blocks.map nextB) = ls at *
    have hb1 : ∀ x, x ∈ ls → x.blocks.length ≤ 100000 := fun x hx => (hbk x hx).1
    have e5 := same10 [] ls (by omega) hbk
    have e6 := dp_a [] ls (by omega) hb1 k
    have e7 := dp_b [] ls (by omega) hb1 k
    have e8 := fun h => inner h ls (by omega) hb1
    have e9 := fun h => inner10 h ls (by omega) hb1
    have hin := inn_is (keyL ls) ls.length
    rw [hin] at e8
    have hil := innF_len (keyL ls) ls.length
    generalize innF (keyL ls) ls.length = inn at *
    generalize ls.foldl (dpS k) 0 = dp at *
    have e10 := ints [] inn inn (by show inn.length ≤ _; omega)
    simp at e10
    simp [encFn] at e2 e3
    simp [tlS, encFn, lpK, lv8, Tryz.f8] at e4
    simp (disch := omega) [Tryz.f8, lv8, hk, q, encFn, e1, e2, e3, e4, e5, e6, e7, e8, e9, e10, works10, -getElem?_pos]
end Go.Proofs.YtdkknhpdjcdmfaaGreat.Abs
