/- Proved: of two loops that share a block that is reached, and have unlike heads, the one's head is within the other one, for every input. No condition. -/
import Derived.Test.YtdkknhpdjcdmfaaGreatRows
import Derived.Test.YtdkknhpdjcdmfaaGreatJC48
import Derived.OpenShut
import Derived.ShutString
import Derived.ChangeOld
import Derived.SizedLaws
import Derived.WalkKit
import Derived.ProofKit
/- Of two loops that share a block the one's head is within the other one: the law answers yes. -/
set_option linter.unusedSimpArgs false
set_option linter.unusedVariables false
namespace Go.Proofs.YtdkknhpdjcdmfaaGreat.Abs
open Go Go.RowKit Go.Proofs

def lnS (h : Heap) (f : Fn) (ls : List Lp) (rows : List (List Bool)) (i : Nat) (v6 v7 : V) : St :=
  ⟨[(1, .one (.ptr h.length 1 0 0)), (5, I (i : Nat)), (3, Sl (lpsOf ls)), (6, v6), (7, v7), (4, Sl (tabOf rows)), (2, Bo false), (1007, .junk), (1006, .junk)], h ++ [some (.row 5 [encFn f])], []⟩

section
variable (h : Heap) (f : Fn) (hf : f.Fine) (hn : f.blocks.length ≤ 12) {ls : List Lp} {rows : List (List Bool)} (hls : LsOK (f.blocks.map nextB) (f.blocks.map nextB).length ls) (G : TabG f.blocks.length (f.blocks.map nextB) rows)
include hf hn hls G

theorem ln_2 (i j : Nat) (x y : Lp) (hx : ls[i]? = some x) (hy : ls[j]? = some y) :
    lpK 10 Tryz.f10 98 2 h (lnS h f ls rows i (I (j : Nat)) (I (0 : Nat))) = some (.exit 4, lnS h f ls rows i (I (j : Nat)) (I (f.blocks.length : Nat))) := by
  have q := qt10
  simp [Tryz.f10, quietFn, quietRegs] at q
  have hil := (List.getElem?_eq_some_iff.1 hx).1
  have hjl := (List.getElem?_eq_some_iff.1 hy).1
  obtain ⟨L, hxb, _⟩ := hls.each x (List.mem_of_getElem? hx)
  obtain ⟨M, hyb, _⟩ := hls.each y (List.mem_of_getElem? hy)
  have hfx : Fit x.blocks := by show x.blocks.length ≤ _; omega
  have hfy : Fit y.blocks := by show y.blocks.length ≤ _; omega
  have key := loop_fun (P := Tryz.prog) (C := cfg) (sc := runScope Tryz.prog cfg 98 h.length (cfg.live 10) 0) (N := 98) (n0 := h.length) (K := cfg.live 10) (c := loopAt Tryz.f10 2)
    (fun k : Nat => lnS h f ls rows i (I (j : Nat)) (I (k : Nat))) (fun k => k ≤ f.blocks.length) (fun k => f.blocks.length - k) (fun _ => (.exit 4, lnS h f ls rows i (I (j : Nat)) (I (f.blocks.length : Nat)))) ?_ 0 (Nat.zero_le _)
  · exact key
  intro k hk
  rcases Nat.lt_or_ge k f.blocks.length with hlt | hge
  · have hltI : ((k : Nat) : Int) < ((f.blocks.length : Nat) : Int) := by omega
    obtain ⟨xk, e1, g1⟩ := tab_get G (by omega) hlt hlt
    refine .inl ⟨k + 1, ?_, hlt, by omega, rfl⟩
    cases c1 : x.blocks.contains (k : Int) with
    | false => simp (disch := omega) [round_eq, lnS, encLp, encFn, Tryz.f10, lv10, q, hx, hy, hil, hjl, hlt, hltI, has _ x.blocks hfx, has _ y.blocks hfy, c1, wrap_i64, -getElem?_pos, -List.contains_eq_mem]
    | true =>
      cases c2 : y.blocks.contains (k : Int) with
      | false => simp (disch := omega) [round_eq, lnS, encLp, encFn, Tryz.f10, lv10, q, hx, hy, hil, hjl, hlt, hltI, has _ x.blocks hfx, has _ y.blocks hfy, c1, c2, wrap_i64, -getElem?_pos, -List.contains_eq_mem]
      | true =>
        cases xk with
        | false => simp (disch := omega) [round_eq, lnS, encLp, encFn, Tryz.f10, lv10, q, hx, hy, hil, hjl, hlt, hltI, has _ x.blocks hfx, has _ y.blocks hfy, c1, c2, e1, wrap_i64, -getElem?_pos, -List.contains_eq_mem]
        | true =>
          have hr := (g1.1 rfl).1
          rcases nested_law hf.edges L M hr (by simpa using c1) (by simpa using c2) with hh | hh
          · have c3 : x.blocks.contains y.head = true := by simpa using hh
            simp (disch := omega) [round_eq, lnS, encLp, encFn, Tryz.f10, lv10, q, hx, hy, hil, hjl, hlt, hltI, has _ x.blocks hfx, has _ y.blocks hfy, c1, c2, c3, e1, wrap_i64, -getElem?_pos, -List.contains_eq_mem]
          · have c4 : y.blocks.contains x.head = true := by simpa using hh
            cases c3 : x.blocks.contains y.head <;> simp (disch := omega) [round_eq, lnS, encLp, encFn, Tryz.f10, lv10, q, hx, hy, hil, hjl, hlt, hltI, has _ x.blocks hfx, has _ y.blocks hfy, c1, c2, c3, c4, e1, wrap_i64, -getElem?_pos, -List.contains_eq_mem]
  · have : k = f.blocks.length := by omega
    subst this
    refine .inr ⟨?_, nofun⟩
    simp (disch := omega) [round_eq, lnS, encFn, Tryz.f10, lv10, q, -getElem?_pos]

theorem ln_1 (i : Nat) (x : Lp) (hx : ls[i]? = some x) :
    lpK 10 Tryz.f10 98 1 h (lnS h f ls rows i (I (0 : Nat)) .junk) = some (.exit 2, lnS h f ls rows i (I (i : Nat)) .junk) := by
  have q := qt10
  simp [Tryz.f10, quietFn, quietRegs] at q
  have hil := (List.getElem?_eq_some_iff.1 hx).1
  have hsl : (f.blocks.map nextB).length = f.blocks.length := by simp
  have hll := hls.len
  have key := loop_fun (P := Tryz.prog) (C := cfg) (sc := runScope Tryz.prog cfg 98 h.length (cfg.live 10) 0) (N := 98) (n0 := h.length) (K := cfg.live 10) (c := loopAt Tryz.f10 1)
    (fun j : Nat => lnS h f ls rows i (I (j : Nat)) .junk) (fun j => j ≤ i) (fun j => i - j) (fun _ => (.exit 2, lnS h f ls rows i (I (i : Nat)) .junk)) ?_ 0 (Nat.zero_le _)
  · exact key
  intro j hj
  rcases Nat.lt_or_ge j i with hlt | hge
  · have hltI : ((j : Nat) : Int) < ((i : Nat) : Int) := by omega
    have hjl : j < ls.length := by omega
    obtain ⟨y, hy⟩ : ∃ y, ls[j]? = some y := ⟨_, List.getElem?_eq_getElem hjl⟩
    have hlt2 : y.head < x.head := by
      have h1 := List.pairwise_iff_getElem.1 hls.rise j i hjl hil hlt
      rw [List.getElem?_eq_getElem hjl] at hy
      rw [List.getElem?_eq_getElem hil] at hx
      injection hy with hy
      injection hx with hx
      rw [hy, hx] at h1
      exact h1
    have hB : (x.head == y.head) = false := by rw [beq_eq_false_iff_ne]; omega
    have e := ln_2 h f hf hn hls G i j x y hx hy
    refine .inl ⟨j + 1, ?_, hlt, by omega, rfl⟩
    simp [lnS, encFn, lpK, lv10, Tryz.f10] at e
    simp (disch := omega) [round_eq, lnS, encLp, encFn, Tryz.f10, lv10, q, hx, hy, hil, hjl, hlt, hltI, hB, e, wrap_i64, -getElem?_pos]
  · have : j = i := by omega
    subst this
    refine .inr ⟨?_, nofun⟩
    simp (disch := omega) [round_eq, lnS, encFn, Tryz.f10, lv10, q, -getElem?_pos]

theorem ln_0 : lpK 10 Tryz.f10 98 0 h (lnS h f ls rows 0 .junk .junk) = some (.exit 0, lnS h f ls rows ls.length .junk .junk) := by
  have q := qt10
  simp [Tryz.f10, quietFn, quietRegs] at q
  have hsl : (f.blocks.map nextB).length = f.blocks.length := by simp
  have hll := hls.len
  have key := loop_fun (P := Tryz.prog) (C := cfg) (sc := runScope Tryz.prog cfg 98 h.length (cfg.live 10) 0) (N := 98) (n0 := h.length) (K := cfg.live 10) (c := loopAt Tryz.f10 0)
    (fun i : Nat => lnS h f ls rows i .junk .junk) (fun i => i ≤ ls.length) (fun i => ls.length - i) (fun _ => (.exit 0, lnS h f ls rows ls.length .junk .junk)) ?_ 0 (Nat.zero_le _)
  · exact key
  intro i hi
  rcases Nat.lt_or_ge i ls.length with hlt | hge
  · have hltI : ((i : Nat) : Int) < ((ls.length : Nat) : Int) := by omega
    obtain ⟨x, hx⟩ : ∃ x, ls[i]? = some x := ⟨_, List.getElem?_eq_getElem hlt⟩
    have e := ln_1 h f hf hn hls G i x hx
    refine .inl ⟨i + 1, ?_, hlt, by omega, rfl⟩
    simp [lnS, encFn, lpK, lv10, Tryz.f10] at e
    simp (disch := omega) [round_eq, lnS, encFn, Tryz.f10, lv10, q, hlt, hltI, e, wrap_i64, -getElem?_pos]
  · have : i = ls.length := by omega
    subst this
    refine .inr ⟨?_, nofun⟩
    simp (disch := omega) [round_eq, lnS, encFn, Tryz.f10, lv10, q, -getElem?_pos]
end

theorem loopsNested (h : Heap) (f : Fn) (hf : f.Ok) : CX 10 [.agg (encFn f)] h = some (Bo true, h, []) := by
  have hk : cfg.keep 10 = 0 := rfl
  have q := qt10
  simp [Tryz.f10, quietFn, quietRegs] at q
  obtain ⟨b, e1, hb⟩ := light10 [] f hf
  refine CI_of Tryz.func10 rfl 0 ?_
  simp [encFn] at e1
  cases b with
  | false => simp (disch := omega) [Tryz.f10, lv10, hk, encFn, e1, works10, -getElem?_pos]
  | true =>
    obtain ⟨g1, g2, g3⟩ := hb rfl
    obtain ⟨ls, l1, e2⟩ := loopsOf (h ++ [some (.row 5 [encFn f])]) f g1 g2 (by omega)
    obtain ⟨rows, r1, e3⟩ := table (h ++ [some (.row 5 [encFn f])]) f g1 g2
    have e4 := ln_0 h f g1 (by omega) l1 r1
    simp [encFn] at e2 e3
    simp [lnS, encFn, lpK, lv10, Tryz.f10] at e4
    simp (disch := omega) [Tryz.f10, lv10, hk, encFn, e1, e2, e3, e4, works10, -getElem?_pos]
end Go.Proofs.YtdkknhpdjcdmfaaGreat.Abs

namespace Go.Proofs.YtdkknhpdjcdmfaaGreat.loopsNested
open Go.ChangeShapes Go.WideShapes Go.ChangeAt Go.RowKit Go.Proofs.YtdkknhpdjcdmfaaGreat.Abs
set_option linter.unusedVariables false
theorem own : ownKnob Tryz.prog.godebug = none := by kernel_rfl
theorem laidOut : laidOutB Tryz.prog = true := by kernel_rfl
theorem mixed : Tryz.prog.follows .mixedOrders = true := by kernel_rfl
theorem law (vs : List V) (h : TypedVs [tFn] vs) : ∃ (K : Cfg) (k : Nat) (h : Heap) (ws : List Nat), absCall Tryz.prog K k 10 vs [] = some (.one (.bool true), h, ws) := by
  simp only [TypedVs] at h
  obtain ⟨v, _, rfl, h1, rfl⟩ := h
  obtain ⟨f, rfl, hf⟩ := typed_fn h1
  obtain ⟨k, hk⟩ := CI_call (loopsNested [] f hf)
  exact ⟨cfg, k, _, _, hk⟩
set_option maxRecDepth 100000 in
theorem lifted (os : Os) (started : os.Started) (H : Type) (enc : TypeId × Value → H) :
    ReturnsInHanded {} Tryz.checked os 10 .any (Rows.loopsNestedSpec.pre6 enc Tryz.prog Tryz.f10 Rows.loopsNestedRow.domain false) (Rows.loopsNestedSpec.post enc Tryz.prog Tryz.f10 false true false false) := by
  refine law_lifted (C := Tryz.checked) (tys := [tFn]) (rt := 4) own started (by kernel_rfl) Tryz.func10
    (ChangeSpec.witness6 (enc := enc) (C := Tryz.checked) false ⟨#[], #[.agg #[.string ⟨#[]⟩, .slice none 0 0, .int .i64 0, .slice none 0 0, .int .i64 0]], []⟩ 8 (by kernel_rfl) (by kernel_rfl) (by kernel_rfl) (by kernel_rfl))
    mixed laidOut rfl (fun ds h => ?_) (by kernel_rfl) (by kernel_rfl) (by kernel_rfl) (by kernel_rfl) law
  match ds, h with
  | [a], _ => rfl
theorem over : Rows.loopsNestedRow.holds Tryz.pinned (OpenSpec.ofChange Rows.loopsNestedSpec) :=
  OpenClaim.holds_of_wide 10 Tryz.f10 rfl rfl rfl rfl rfl rfl rfl ⟨rfl, rfl, rfl, rfl, rfl⟩ rfl rfl rfl rfl rfl (by kernel_rfl) Tryz.func10 (by kernel_rfl)
    (of_decide_eq_true (by kernel_rfl)) (by unfold Func.isWrapper; first | (rw [if_pos (by decide +kernel)]; kernel_rfl) | (rw [if_neg (by decide +kernel)]; exact ⟨rfl, rfl⟩))
    (fun os started H enc _ => lifted os started H enc)
theorem proved : Rows.LoopsNestedSaid := over
end Go.Proofs.YtdkknhpdjcdmfaaGreat.loopsNested
#print axioms Go.Proofs.YtdkknhpdjcdmfaaGreat.loopsNested.proved
