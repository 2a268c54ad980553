/- Proved: whatever way is taken from the first block on, each block that stands ahead of one on it was on the way there, for every input. No condition. -/
import Derived.Test.YtdkknhpdjcdmfaaJD0
import Derived.Test.YtdkknhpdjcdmfaaJD1
import Derived.Test.YtdkknhpdjcdmfaaJD2
import Derived.Test.YtdkknhpdjcdmfaaJD3
import Derived.Test.YtdkknhpdjcdmfaaJD4
import Derived.Test.YtdkknhpdjcdmfaaJD5
import Derived.Test.YtdkknhpdjcdmfaaJD6
import Derived.Test.YtdkknhpdjcdmfaaJD7
import Derived.Test.YtdkknhpdjcdmfaaJD8
import Derived.Test.YtdkknhpdjcdmfaaJD9
import Derived.Test.YtdkknhpdjcdmfaaJD10
import Derived.Test.YtdkknhpdjcdmfaaJD11
import Derived.Test.YtdkknhpdjcdmfaaJD12
import Derived.Test.YtdkknhpdjcdmfaaJD13
import Derived.Test.YtdkknhpdjcdmfaaJD14
import Derived.Test.YtdkknhpdjcdmfaaJD15
import Derived.Test.YtdkknhpdjcdmfaaJD16
import Derived.Test.YtdkknhpdjcdmfaaJD17
import Derived.Test.YtdkknhpdjcdmfaaJD18
import Derived.Test.YtdkknhpdjcdmfaaJD19
import Derived.Test.YtdkknhpdjcdmfaaJD20
import Derived.Test.YtdkknhpdjcdmfaaJD21
import Derived.Test.YtdkknhpdjcdmfaaJD22
import Derived.Test.YtdkknhpdjcdmfaaJD23
import Derived.Test.YtdkknhpdjcdmfaaJD24
import Derived.Test.YtdkknhpdjcdmfaaJD25
import Derived.Test.YtdkknhpdjcdmfaaJD26
import Derived.Test.YtdkknhpdjcdmfaaJD27
import Derived.Test.YtdkknhpdjcdmfaaJD28
import Derived.Test.YtdkknhpdjcdmfaaJD29
import Derived.Test.YtdkknhpdjcdmfaaJD30
import Derived.Test.YtdkknhpdjcdmfaaJD31
import Derived.Test.YtdkknhpdjcdmfaaJD32
import Derived.Test.YtdkknhpdjcdmfaaJD33
import Derived.Test.YtdkknhpdjcdmfaaJD34
import Derived.Test.YtdkknhpdjcdmfaaJD35
import Derived.Test.YtdkknhpdjcdmfaaJD36
import Derived.Test.YtdkknhpdjcdmfaaJD37
import Derived.Test.YtdkknhpdjcdmfaaJD38
import Derived.Test.YtdkknhpdjcdmfaaJD39
import Derived.Test.YtdkknhpdjcdmfaaJD40
import Derived.Test.YtdkknhpdjcdmfaaJD41
import Derived.Test.YtdkknhpdjcdmfaaJD42
import Derived.Test.YtdkknhpdjcdmfaaJD43
import Derived.Test.YtdkknhpdjcdmfaaJD44
import Derived.Test.YtdkknhpdjcdmfaaJD45
import Derived.Test.YtdkknhpdjcdmfaaJD46
import Derived.Test.YtdkknhpdjcdmfaaJD47
import Derived.Test.YtdkknhpdjcdmfaaJD48
import Derived.Test.YtdkknhpdjcdmfaaJD49
import Derived.Test.YtdkknhpdjcdmfaaRows
import Derived.OpenShut
import Derived.ShutString
import Derived.ChangeOld
import Derived.SizedLaws
import Derived.WalkKit
import Derived.ProofKit
/- On every way: the law answers yes (where its example does). -/
set_option linter.unusedSimpArgs false
set_option linter.unusedVariables false
set_option linter.unusedSectionVars false
namespace Go.Proofs.Ytdkknhpdjcdmfaa.Abs
open Go Go.RowKit Go.Proofs
theorem lv8 : cfg.live 8 = [(2, .b []), (1, .p), (5, .p), (8, .p), (6, .p), (7, .s 1 []), (10, .p), (4, .p), (1010, .x 10), (1009, .x 10)] := rfl

theorem treeUp (h : Heap) (up dp : List Int) (kids : List (List Int)) (hn : up.length ≤ 1000) (k : Nat) (hk : k < up.length) :
    CX 36 [treeV up dp kids, I (k : Nat)] h = some (I (upF up k), h, []) := by
  have hkp : cfg.keep 36 = 0 := rfl
  obtain ⟨u, hu⟩ : ∃ u, up[k]? = some u := ⟨_, List.getElem?_eq_getElem hk⟩
  have hg : up.getD k (-1) = u := by rw [List.getD, hu]; rfl
  unfold upF
  rw [hg]
  refine CI_of Try.func36 rfl 0 ?_
  by_cases h0 : k = 0
  · rw [if_pos h0]
    subst h0
    simp (disch := omega) [Try.f36, hkp, treeV, -getElem?_pos]
  · rw [if_neg h0]
    have h1 : ¬ ((k : Nat) : Int) ≤ 0 := by omega
    have h2 : ¬ ((up.length : Nat) : Int) ≤ ((k : Nat) : Int) := by omega
    have h3 : ¬ up.length ≤ k := by omega
    simp (disch := omega) [Try.f36, hkp, treeV, h0, h1, h2, h3, hu, hk, -getElem?_pos]

def dwS (h : Heap) (f : Fn) (ts up dp : List Int) (kids : List (List Int)) (i k : Nat) (way : List Int) (v10 : V) : St :=
  ⟨[(2, .one (.ptr h.length 1 0 0)), (1, Sl (u8sOf ts)), (5, treeV up dp kids), (8, I (i : Nat)), (6, I (k : Nat)), (7, .one (.sl (h.length + 1) 1 way.length 0 way.length)), (10, v10), (4, Bo false), (1010, .junk), (1009, .junk)],
   h ++ [some (.row 5 [encFn f]), some (.row 1 (intsOf way))], []⟩
section
variable (h : Heap) (f : Fn) (hf : f.Fine) (hn : f.blocks.length ≤ 12) (ts up dp : List Int) (kids : List (List Int)) (hah : ∀ h (a b : Int), CX 34 [treeV up dp kids, I a, I b] h = some (Bo (ahB (f.blocks.map nextB) a b), h, []))
include hf hn hah
theorem dw_in (i k : Nat) (way : List Int) (hwl : way.length ≤ 1000) (W : Wayto (f.blocks.map nextB) way k) :
    lpK 8 Try.f8 82 1 h (dwS h f ts up dp kids i k way (I (0 : Nat))) = some (.exit 2, dwS h f ts up dp kids i k way (I (f.blocks.length : Nat))) := by
  have hfit : Fit way := by show way.length ≤ _; omega
  have key := loop_fun (P := Try.prog) (C := cfg) (sc := runScope Try.prog cfg 82 h.length (cfg.live 8) 0) (N := 82) (n0 := h.length) (K := cfg.live 8) (c := loopAt Try.f8 1)
    (fun a : Nat => dwS h f ts up dp kids i k way (I (a : Nat))) (fun a => a ≤ f.blocks.length) (fun a => f.blocks.length - a) (fun _ => (.exit 2, dwS h f ts up dp kids i k way (I (f.blocks.length : Nat)))) ?_ 0 (Nat.zero_le _)
  · exact key
  intro a hia
  rcases Nat.lt_or_ge a f.blocks.length with hlt | hge
  · have hltI : ((a : Nat) : Int) < ((f.blocks.length : Nat) : Int) := by omega
    have e := fun h => hah h (a : Int) (k : Int)
    simp only [treeV] at e
    refine .inl ⟨a + 1, ?_, hlt, by omega, rfl⟩
    cases hb : ahB (f.blocks.map nextB) (a : Int) (k : Int) with
    | false =>
      rw [hb] at e
      simp (disch := omega) [round_eq, dwS, treeV, encFn, Try.f8, lv8, hlt, hltI, e, wrap_i64, -getElem?_pos]
    | true =>
      rw [hb] at e
      have hm := W.ahead (ahB_nat.1 hb)
      have hc : way.contains (a : Int) = true := by simpa using hm
      simp (disch := omega) [round_eq, dwS, treeV, encFn, Try.f8, lv8, hlt, hltI, e, has _ way hfit, hc, wrap_i64, -getElem?_pos, -List.contains_eq_mem]
  · have : a = f.blocks.length := by omega
    subst this
    refine .inr ⟨?_, nofun⟩
    simp (disch := omega) [round_eq, dwS, treeV, encFn, Try.f8, lv8, -getElem?_pos]

theorem dw_out {pl : Nat → Nat} (D : Doms (f.blocks.map nextB).length (fun v => (v : Int) ∈ orderF (f.blocks.map nextB)) pl (predsF (f.blocks.map nextB)) up) (h0 : 0 < f.blocks.length) (hts : ts.length ≤ 60) (htb : ∀ c, c ∈ ts → 0 ≤ c ∧ c < 256) :
    ∃ i k way, lpK 8 Try.f8 82 0 h (dwS h f ts up dp kids 0 0 [0] .junk) = some (.exit 0, dwS h f ts up dp kids i k way .junk) := by
  have hsl : (f.blocks.map nextB).length = f.blocks.length := by simp
  have hul := D.T.len
  have key := loop_rel (P := Try.prog) (C := cfg) (sc := runScope Try.prog cfg 82 h.length (cfg.live 8) 0) (N := 82) (n0 := h.length) (K := cfg.live 8) (c := loopAt Try.f8 0)
    (fun s : Nat × Nat × List Int => dwS h f ts up dp kids s.1 s.2.1 s.2.2 .junk) (fun s => s.1 ≤ ts.length ∧ s.2.1 < f.blocks.length ∧ s.2.2.length = s.1 + 1 ∧ Wayto (f.blocks.map nextB) s.2.2 s.2.1) (fun s => ts.length - s.1)
    (fun _ r => ∃ i k way, r = (.exit 0, dwS h f ts up dp kids i k way .junk)) ?_ (0, 0, [0]) ⟨Nat.zero_le _, h0, rfl, Wayto.zero _⟩
  · obtain ⟨r, h1, i, k, way, rfl⟩ := key
    exact ⟨i, k, way, h1⟩
  rintro ⟨i, k, way⟩ ⟨j1, j2, j3, j4⟩
  simp only at j1 j2 j3 j4 ⊢
  rcases Nat.lt_or_ge i ts.length with hlt | hge
  · have hltI : ((i : Nat) : Int) < ((ts.length : Nat) : Int) := by omega
    obtain ⟨c, hc⟩ : ∃ c, ts[i]? = some c := ⟨_, List.getElem?_eq_getElem hlt⟩
    obtain ⟨c0, c1⟩ := htb c (List.mem_of_getElem? hc)
    obtain ⟨l, hl⟩ : ∃ l, f.blocks[k]? = some l := ⟨_, List.getElem?_eq_getElem j2⟩
    have e1 := fun h => next h f hf.ok hf.ended k l hl
    have hgd : (f.blocks.map nextB).getD k [] = nextB l := by rw [List.getD, List.getElem?_map, hl]; rfl
    have hE := hf.edges.each (nextB l) (List.mem_map.2 ⟨l, List.mem_of_getElem? hl, rfl⟩)
    simp [encFn] at e1
    by_cases hxs : (nextB l).length = 0
    · have hnil : nextB l = [] := List.length_eq_zero_iff.1 hxs
      rw [hnil] at e1
      refine .inr ⟨(.exit 0, dwS h f ts up dp kids i k way .junk), ?_, nofun, i, k, way, rfl⟩
      simp (disch := omega) [round_eq, dwS, treeV, encFn, Try.f8, lv8, hlt, hltI, e1, wrap_i64, -getElem?_pos]
    · obtain ⟨x, hx, hxn⟩ := rem_n c (nextB l).length c0 (by omega)
      obtain ⟨b, hb⟩ : ∃ b, (nextB l)[x]? = some b := ⟨_, List.getElem?_eq_getElem hxn⟩
      have hbm := List.mem_of_getElem? hb
      obtain ⟨b0, b1⟩ := hE.2 b hbm
      obtain ⟨k', rfl⟩ : ∃ k' : Nat, b = (k' : Int) := ⟨b.toNat, by omega⟩
      have W' := j4.step (b := k') (by rw [hgd]; exact hbm)
      have e2 := dw_in h f hf hn ts up dp kids hah i k' (way ++ [(k' : Int)]) (by simp; omega) W'
      have hk' : k' < f.blocks.length := by omega
      have e3 := fun h => treeUp h up dp kids (by omega) k' (by omega)
      have hfit : Fit (way ++ [(k' : Int)]) := by show (way ++ [(k' : Int)]).length ≤ _; simp; omega
      have hxB : (((nextB l).length : Nat) : Int) ≠ 0 := by omega
      have hxB2 : ((((nextB l).length : Nat) : Int) == 0) = false := by rw [beq_eq_false_iff_ne]; omega
      have hw1 : IntKind.i64.wrap c = c := wrap_i64 (by omega) (by omega)
      have hup : k' = 0 ∨ (way ++ [(k' : Int)]).contains (upF up k') = true := by
        by_cases hk0 : k' = 0
        · exact .inl hk0
        · right
          have h1 := ahP_up hf.edges (by omega) D W'.met hk0
          have h2 := W'.ahead h1
          have hd := (D.done k' (by omega)).2 ((rch_order hf.edges (by omega)).1 W'.met)
          have h3 : upF up k' = ((nx up k' : Nat) : Int) := by
            unfold upF
            rw [if_neg hk0]
            unfold Done lk at hd
            unfold nx lk
            omega
          rw [h3]
          simpa using h2
      refine .inl ⟨(i + 1, k', way ++ [(k' : Int)]), ?_, ⟨hlt, hk', by simp [j3], W'⟩, by simp only; omega, fun r h => h⟩
      simp [dwS, treeV, encFn, lpK, lv8, Try.f8] at e2
      simp only [treeV] at e3
      rcases hup with hk0 | hup
      · subst hk0
        have hz0 : ((0 : Nat) : Int) = 0 := rfl
        simp only [hz0] at e2 e3 hb ⊢
        simp (disch := omega) [round_eq, dwS, treeV, encFn, Try.f8, lv8, hlt, hltI, hc, e1, e2, e3, hx, hxn, hb, hxB, hxB2, hxs, hw1, room_of, intsOf_snoc, wrap_i64, -getElem?_pos]
      · have hk0B : k' = 0 ∨ ((k' : Int) != 0) = true := by
          by_cases e : k' = 0
          · exact .inl e
          · right; simp; omega
        rcases hk0B with hk0 | hk0B
        · subst hk0
          have hz0 : ((0 : Nat) : Int) = 0 := rfl
          simp only [hz0] at e2 e3 hb ⊢
          simp (disch := omega) [round_eq, dwS, treeV, encFn, Try.f8, lv8, hlt, hltI, hc, e1, e2, e3, hx, hxn, hb, hxB, hxB2, hxs, hw1, room_of, intsOf_snoc, wrap_i64, -getElem?_pos]
        · simp (disch := omega) [round_eq, dwS, treeV, encFn, Try.f8, lv8, hlt, hltI, hc, e1, e2, e3, hx, hxn, hb, hxB, hxB2, hxs, hw1, hk0B, has _ _ hfit, hup, room_of, intsOf_snoc, wrap_i64, -getElem?_pos, -List.contains_eq_mem]
  · have : i = ts.length := by omega
    subst this
    refine .inr ⟨(.exit 0, dwS h f ts up dp kids ts.length k way .junk), ?_, nofun, _, k, way, rfl⟩
    simp (disch := omega) [round_eq, dwS, treeV, encFn, Try.f8, lv8, -getElem?_pos]
end
theorem domWays (hw : CX 31 [] [] = some (Bo true, [], [])) (h : Heap) (f : Fn) (hf : f.Ok) (ts : List Int) (hts : ts.length ≤ 140737488355328) (htb : ∀ c, c ∈ ts → 0 ≤ c ∧ c < 256) :
    CX 8 [.agg (encFn f), Sl (u8sOf ts)] h = some (Bo true, h, []) := by
  have hk : cfg.keep 8 = 0 := rfl
  obtain ⟨l, e1, hl⟩ := light9 [] f hf
  refine CI_of Try.func8 rfl 0 ?_
  simp [encFn] at e1
  cases l with
  | false => simp (disch := omega) [Try.f8, lv8, hk, encFn, e1, hw, -getElem?_pos]
  | true =>
    by_cases h60 : 60 < ts.length
    · have h60I : (60 : Int) < ((ts.length : Nat) : Int) := by omega
      simp (disch := omega) [Try.f8, lv8, hk, encFn, e1, h60, h60I, hw, -getElem?_pos]
    · have h60I : ¬ (60 : Int) < ((ts.length : Nat) : Int) := by omega
      obtain ⟨g1, g2, g3⟩ := hl rfl
      have hsl : (f.blocks.map nextB).length = f.blocks.length := by simp
      obtain ⟨up, dp, kids, e2, hah, D, _⟩ := tree_of (h ++ [some (.row 5 [encFn f])]) f g1 g2 (by omega)
      rw [← hsl] at D
      obtain ⟨i, k, way, e3⟩ := dw_out h f g1 (by omega) ts up dp kids hah D g2 (by omega) htb
      simp [encFn, treeV] at e2
      simp [dwS, treeV, encFn, lpK, lv8, Try.f8] at e3
      have hz : intsOf [0] = ([[Leaf.int .i64 0]] : List (List Leaf)) := rfl
      rw [hz] at e3
      simp (disch := omega) [Try.f8, lv8, hk, encFn, e1, e2, e3, h60, h60I, hw, -getElem?_pos]
end Go.Proofs.Ytdkknhpdjcdmfaa.Abs

namespace Go.Proofs.Ytdkknhpdjcdmfaa.domWays
open Go.ChangeShapes Go.WideShapes Go.ChangeAt Go.RowKit Go.Proofs.Ytdkknhpdjcdmfaa.Abs
set_option linter.unusedVariables false
theorem own : ownKnob Try.prog.godebug = none := by kernel_rfl
theorem laidOut : laidOutB Try.prog = true := by kernel_rfl
theorem mixed : Try.prog.follows .mixedOrders = true := by kernel_rfl
theorem typed_u8s {ls : List Leaf} (h : Typed (.slice (.int .u8)) ls) : ∃ b : List Int, ls = [.isl (u8sOf b)] ∧ b.length ≤ 140737488355328 ∧ ∀ c, c ∈ b → 0 ≤ c ∧ c < 256 := by
  simp only [Typed] at h
  obtain ⟨es, rfl, h1, h2⟩ := h
  obtain ⟨xs, rfl, hl⟩ := list_of' (f := fun n : { n : Int // 0 ≤ n ∧ n < 256 } => [Leaf.int .u8 n.1]) (es := es) fun x hx => by
    obtain ⟨n, hn, h3⟩ := h2 x hx
    refine ⟨⟨n, ?_⟩, hn⟩
    simp [Lit.wf, IntKind.min, IntKind.max, IntKind.signed, IntKind.bits] at h3
    omega
  refine ⟨xs.map (·.1), by simp [u8sOf, Function.comp_def], ?_, ?_⟩
  · simp [Ty.mb, reachBytes] at h1
    simp
    omega
  intro c hc
  obtain ⟨x, _, rfl⟩ := List.mem_map.1 hc
  exact x.2
theorem law (vs : List V) (h : TypedVs [tFn, .slice (.int .u8)] vs) : ∃ (K : Cfg) (k : Nat) (h : Heap) (ws : List Nat), CfgOK Try.prog K ∧ absCall Try.prog K k 8 vs [] = some (.one (.bool true), h, ws) := by
  simp only [TypedVs] at h
  obtain ⟨v, _, rfl, h1, w, _, rfl, h2, rfl⟩ := h
  obtain ⟨f, rfl, hf⟩ := typed_fn h1
  obtain ⟨ls, rfl, h3⟩ := h2
  obtain ⟨b, e, hl, hb⟩ := typed_u8s h3
  cases e
  obtain ⟨k, hk⟩ := CI_call (domWays works09 [] f hf b hl hb)
  exact ⟨cfg, k, _, _, cfg_ok, hk⟩
set_option maxRecDepth 100000 in
theorem lifted (os : Os) (started : os.Started) (H : Type) (enc : TypeId × Value → H) :
    ReturnsInHanded {} Try.checked os 8 .any (Rows.domWaysSpec.pre6 enc Try.prog Try.f8 Rows.domWaysRow.domain false) (Rows.domWaysSpec.post enc Try.prog Try.f8 false true false false) := by
  refine law_lifted (C := Try.checked) (tys := [tFn, .slice (.int .u8)]) (rt := 4) own started (by kernel_rfl) Try.func8
    (ChangeSpec.witness6 (enc := enc) (C := Try.checked) false ⟨#[], #[.agg #[.string ⟨#[]⟩, .slice none 0 0, .int .i64 0, .slice none 0 0, .int .i64 0], .slice none 0 0], []⟩ 8 (by kernel_rfl) (by kernel_rfl) (by kernel_rfl) (by kernel_rfl))
    mixed laidOut rfl (fun ds h => ?_) (by kernel_rfl) (by kernel_rfl) (by kernel_rfl) (by kernel_rfl) law
  match ds, h with
  | [a, b], _ => rfl
theorem over : Rows.domWaysRow.holds Try.pinned (OpenSpec.ofChange Rows.domWaysSpec) :=
  OpenClaim.holds_of_wide 8 Try.f8 rfl rfl rfl rfl rfl rfl rfl ⟨rfl, rfl, rfl, rfl, rfl⟩ rfl rfl rfl rfl rfl (by kernel_rfl) Try.func8 (by kernel_rfl)
    (of_decide_eq_true (by kernel_rfl)) (by unfold Func.isWrapper; first | (rw [if_pos (by decide +kernel)]; kernel_rfl) | (rw [if_neg (by decide +kernel)]; exact ⟨rfl, rfl⟩))
    (fun os started H enc _ => lifted os started H enc)
theorem proved : Rows.DomWaysSaid := over
end Go.Proofs.Ytdkknhpdjcdmfaa.domWays
#print axioms Go.Proofs.Ytdkknhpdjcdmfaa.domWays.proved
