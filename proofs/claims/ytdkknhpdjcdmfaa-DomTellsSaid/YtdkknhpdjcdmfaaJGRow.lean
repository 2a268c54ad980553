/- Proved: which blocks stand on every way to which, which is the last one, how deep, and in which order they go down, is what the chapter says, for every input. No condition. -/
import Derived.Test.YtdkknhpdjcdmfaaJD0
import Derived.Test.YtdkknhpdjcdmfaaJD1
import Derived.Test.YtdkknhpdjcdmfaaJD2
import Derived.Test.YtdkknhpdjcdmfaaJD3
import Derived.Test.YtdkknhpdjcdmfaaJD4
import Derived.Test.YtdkknhpdjcdmfaaJD5
import Derived.Test.YtdkknhpdjcdmfaaJD6
import Derived.Test.YtdkknhpdjcdmfaaJD7
import Derived.Test.YtdkknhpdjcdmfaaJD8
import Derived.Test.YtdkknhpdjcdmfaaJD9
import Derived.Test.YtdkknhpdjcdmfaaJD10
import Derived.Test.YtdkknhpdjcdmfaaJD11
import Derived.Test.YtdkknhpdjcdmfaaJD12
import Derived.Test.YtdkknhpdjcdmfaaJD13
import Derived.Test.YtdkknhpdjcdmfaaJD14
import Derived.Test.YtdkknhpdjcdmfaaJD15
import Derived.Test.YtdkknhpdjcdmfaaJD16
import Derived.Test.YtdkknhpdjcdmfaaJD17
import Derived.Test.YtdkknhpdjcdmfaaJD18
import Derived.Test.YtdkknhpdjcdmfaaJD19
import Derived.Test.YtdkknhpdjcdmfaaJD20
import Derived.Test.YtdkknhpdjcdmfaaJD21
import Derived.Test.YtdkknhpdjcdmfaaJD22
import Derived.Test.YtdkknhpdjcdmfaaJD23
import Derived.Test.YtdkknhpdjcdmfaaJD24
import Derived.Test.YtdkknhpdjcdmfaaJD25
import Derived.Test.YtdkknhpdjcdmfaaJD26
import Derived.Test.YtdkknhpdjcdmfaaJD27
import Derived.Test.YtdkknhpdjcdmfaaJD28
import Derived.Test.YtdkknhpdjcdmfaaJD29
import Derived.Test.YtdkknhpdjcdmfaaJD30
import Derived.Test.YtdkknhpdjcdmfaaJD31
import Derived.Test.YtdkknhpdjcdmfaaJD32
import Derived.Test.YtdkknhpdjcdmfaaJD33
import Derived.Test.YtdkknhpdjcdmfaaJD34
import Derived.Test.YtdkknhpdjcdmfaaJD35
import Derived.Test.YtdkknhpdjcdmfaaJD36
import Derived.Test.YtdkknhpdjcdmfaaJD37
import Derived.Test.YtdkknhpdjcdmfaaJD38
import Derived.Test.YtdkknhpdjcdmfaaJD39
import Derived.Test.YtdkknhpdjcdmfaaJD40
import Derived.Test.YtdkknhpdjcdmfaaJD41
import Derived.Test.YtdkknhpdjcdmfaaJD42
import Derived.Test.YtdkknhpdjcdmfaaJD43
import Derived.Test.YtdkknhpdjcdmfaaJD44
import Derived.Test.YtdkknhpdjcdmfaaJD45
import Derived.Test.YtdkknhpdjcdmfaaJD46
import Derived.Test.YtdkknhpdjcdmfaaJD47
import Derived.Test.YtdkknhpdjcdmfaaJD48
import Derived.Test.YtdkknhpdjcdmfaaJD49
import Derived.Test.YtdkknhpdjcdmfaaRows
import Derived.OpenShut
import Derived.ShutString
import Derived.ChangeOld
import Derived.SizedLaws
import Derived.WalkKit
import Derived.ProofKit
/- A tree of blocks tells all that the table tells: how deep, which is the last one ahead, and of which ones. -/
set_option linter.unusedSimpArgs false
set_option linter.unusedVariables false
set_option linter.unusedSectionVars false
namespace Go.Proofs.Ytdkknhpdjcdmfaa.Abs
open Go Go.RowKit Go.Proofs
theorem lv37 : cfg.live 37 = [(0, .p), (1, .p), (6, .p), (5, .p), (4, .p)] := rfl
theorem lv39 : cfg.live 39 = [(6, .p), (0, .p), (1, .p), (5, .p)] := rfl
theorem lv42 : cfg.live 42 = [(6, .p), (0, .p), (1, .p), (5, .s 1 [])] := rfl
theorem lv43 : cfg.live 43 = [(4, .b [2]), (3, .s 1 []), (0, .p), (30000, .it ⟨103, 30, 3, 67, 3, 4⟩)] := rfl
theorem lv44 : cfg.live 44 = [(0, .p), (7, .p), (6, .p), (5, .s 1 [])] := rfl
theorem lv7 : cfg.live 7 = [(3, .b []), (7, .p), (8, .p), (9, .p), (10, .p), (6, .p)] := rfl
theorem lv8 : cfg.live 8 = [(2, .b []), (1, .p), (5, .p), (8, .p), (6, .p), (7, .s 1 []), (10, .p), (4, .p), (1010, .x 10), (1009, .x 10)] := rfl

theorem count_add {p : Nat → Bool} {u : Nat} (hp : p u = false) : ∀ n, (List.range n).countP (fun a => p a || (a == u)) = (List.range n).countP p + (if u < n then 1 else 0)
  | 0 => by simp
  | n + 1 => by
    rw [List.range_succ, List.countP_append, List.countP_append, count_add hp n]
    by_cases e : n = u
    · subst e
      simp [hp]
    · have e' : (n == u) = false := by simp [e]
      have h2 : (u < n + 1) ↔ u < n := by omega
      simp only [List.countP_cons, List.countP_nil, e', Bool.or_false, h2]
      omega
theorem count_none {p : Nat → Bool} (n : Nat) (h : ∀ a, a < n → p a = false) : (List.range n).countP p = 0 := by
  rw [List.countP_eq_zero]
  intro a ha
  rw [h a (List.mem_range.1 ha)]; simp
theorem find_one {p : Nat → Bool} {u n : Nat} (hu : u < n) (hp : p u = true) (h : ∀ a, a < n → p a = true → a = u) : (List.range n).find? p = some u := by
  cases hf : (List.range n).find? p with
  | none => rw [List.find?_eq_none] at hf; exact absurd hp (hf u (List.mem_range.2 hu))
  | some a =>
    have h1 := List.find?_some hf
    have h2 := List.mem_range.1 (List.mem_of_find?_eq_some hf)
    rw [h a h2 h1]
theorem srt_eq {l m : List Int} (hl : SrtTo l l.length) (hm : SrtTo m m.length) (nl : l.Nodup) (nm : m.Nodup) (h : ∀ x, x ∈ l ↔ x ∈ m) : l = m := by
  have pw : ∀ {l : List Int}, SrtTo l l.length → l.Pairwise (· ≤ ·) := fun {l} hl => by
    rw [List.pairwise_iff_getElem]
    intro i j hi hj hij
    exact hl i j l[i] l[j] hij hj (by simp [hi]) (by simp [hj])
  exact ((List.perm_ext_iff_of_nodup nl nm).2 h).eq_of_pairwise (fun a b _ _ h1 h2 => by omega) (pw hl) (pw hm)

section
variable (ss : List (List Int)) (n : Nat)
/-- How many others stand ahead of a block. -/
noncomputable def dcN (b : Nat) : Nat := (List.range n).countP fun a => (a != b) && ahB ss (a : Int) (b : Int)
noncomputable def upQ (b a : Nat) : Bool := (a != b) && ahB ss (a : Int) (b : Int) && decide ((dcN ss n a : Int) = (dcN ss n b : Int) - 1)
noncomputable def upR (b : Nat) : Int := match (List.range n).find? (upQ ss n b) with
  | some a => (a : Int)
  | none => -1
noncomputable def kidsR (a : Nat) : List Int := ((List.range n).filter fun b => decide (upR ss n b = (a : Int))).map fun b => ((b : Nat) : Int)
end

section
variable {ss : List (List Int)} (hs : Edges ss) (hn : 0 < ss.length) {pl : Nat → Nat} {up : List Int} (D : Doms ss.length (fun v => (v : Int) ∈ orderF ss) pl (predsF ss) up)
include hs hn D
theorem ah_zero {a : Nat} (h : AhP ss a 0) : a = 0 := ahP_anti hs hn D h (ahP_zero hs hn D |>.2 ⟨h.1, h.1, .inl rfl⟩)
theorem dc_zero : dcN ss ss.length 0 = 0 := count_none _ fun a ha => by
  cases e : ahB ss (a : Int) ((0 : Nat) : Int) with
  | false => simp
  | true =>
    have := ah_zero hs hn D (ahB_nat.1 e)
    subst this; rfl
theorem dc_none {b : Nat} (hr : ¬ Rch ss [0] (-1) b) : dcN ss ss.length b = 0 := count_none _ fun a ha => by
  cases e : ahB ss (a : Int) (b : Int) with
  | false => simp
  | true => exact absurd (ahB_nat.1 e).2.1 hr
theorem ah_up {a v : Nat} (hv : Rch ss [0] (-1) v) (h0 : v ≠ 0) : (a ≠ v ∧ AhP ss a v) ↔ AhP ss a (nx up v) := by
  have r := (rch_order hs hn).1 hv
  have l := D.low v r
  have d := (D.done v l).2 r
  obtain ⟨g1, g2, g3⟩ := D.T.link v l d h0
  constructor
  · rintro ⟨hne, h⟩
    obtain ⟨a1, a2, a3, a4, a5⟩ := (doms_exact hs hn D).2 h
    exact (doms_exact hs hn D).1 ⟨a1, g1, a3, g2, (D.T.anc_step a5 hne).2.2⟩
  · intro h
    obtain ⟨a1, a2, a3, a4, a5⟩ := (doms_exact hs hn D).2 h
    refine ⟨fun e => ?_, ahP_trans hs hn D h (ahP_up hs hn D hv h0)⟩
    subst e
    have := (D.T.anc a5 g1 g2).2.2
    omega
theorem nx_low {v : Nat} (hv : Rch ss [0] (-1) v) (h0 : v ≠ 0) : nx up v < ss.length ∧ Rch ss [0] (-1) (nx up v) ∧ nx up v ≠ v ∧ pl (nx up v) < pl v := by
  have r := (rch_order hs hn).1 hv
  have l := D.low v r
  have d := (D.done v l).2 r
  obtain ⟨g1, g2, g3⟩ := D.T.link v l d h0
  exact ⟨g1, (rch_order hs hn).2 ((D.done _ g1).1 g2), fun e => by rw [e] at g3; omega, g3⟩
theorem dc_up {v : Nat} (hv : Rch ss [0] (-1) v) (h0 : v ≠ 0) : dcN ss ss.length v = dcN ss ss.length (nx up v) + 1 := by
  obtain ⟨g1, g2, g3, _⟩ := nx_low hs hn D hv h0
  have h1 := count_add (p := fun a => (a != nx up v) && ahB ss (a : Int) ((nx up v : Nat) : Int)) (u := nx up v) (by simp) ss.length
  rw [if_pos g1] at h1
  unfold dcN
  rw [← h1]
  refine List.countP_congr fun a _ => ?_
  have h2 := ah_up hs hn D (a := a) hv h0
  rw [Bool.and_eq_true, Bool.or_eq_true, Bool.and_eq_true, ahB_nat, ahB_nat, bne_iff_ne, bne_iff_ne, beq_iff_eq, h2]
  constructor
  · intro h
    by_cases e : a = nx up v
    · exact .inr e
    · exact .inl ⟨e, h⟩
  · rintro (h | h)
    · exact h.2
    · subst h; exact ⟨g2, g2, .inl rfl⟩
theorem dc_lt {a v : Nat} (h : AhP ss a v) (hne : a ≠ v) : dcN ss ss.length a < dcN ss ss.length v := by
  have key : ∀ (m v : Nat), pl v ≤ m → AhP ss a v → a ≠ v → dcN ss ss.length a < dcN ss ss.length v := by
    intro m
    induction m with
    | zero =>
      intro v hm h hne
      have h0 : v ≠ 0 := fun e => by subst e; exact hne (ah_zero hs hn D h)
      have := (nx_low hs hn D h.2.1 h0).2.2.2
      omega
    | succ m ih =>
      intro v hm h hne
      have h0 : v ≠ 0 := fun e => by subst e; exact hne (ah_zero hs hn D h)
      have h1 := (nx_low hs hn D h.2.1 h0).2.2.2
      have h2 := dc_up hs hn D h.2.1 h0
      have h3 := (ah_up hs hn D h.2.1 h0).1 ⟨hne, h⟩
      by_cases e : a = nx up v
      · rw [h2, e]; omega
      · have := ih _ (by omega) h3 e
        omega
  exact key _ v (Nat.le_refl _) h hne

theorem up_is (k : Nat) (hk : k < ss.length) : upR ss ss.length k = upF up k := by
  unfold upR upF
  by_cases h0 : k = 0
  · subst h0
    have : (List.range ss.length).find? (upQ ss ss.length 0) = none := by
      rw [List.find?_eq_none]
      intro a ha
      unfold upQ
      cases e : ahB ss (a : Int) ((0 : Nat) : Int) with
      | false => simp
      | true => have := ah_zero hs hn D (ahB_nat.1 e); subst this; simp
    rw [this, if_pos rfl]
  · rw [if_neg h0]
    by_cases hr : Rch ss [0] (-1) k
    · obtain ⟨g1, g2, g3, _⟩ := nx_low hs hn D hr h0
      have d := (D.done k hk).2 ((rch_order hs hn).1 hr)
      have : (List.range ss.length).find? (upQ ss ss.length k) = some (nx up k) := by
        refine find_one g1 ?_ fun a ha hq => ?_
        · unfold upQ
          rw [Bool.and_eq_true, Bool.and_eq_true, bne_iff_ne, ahB_nat, decide_eq_true_iff, dc_up hs hn D hr h0]
          exact ⟨⟨g3, ahP_up hs hn D hr h0⟩, by omega⟩
        · unfold upQ at hq
          rw [Bool.and_eq_true, Bool.and_eq_true, bne_iff_ne, ahB_nat, decide_eq_true_iff, dc_up hs hn D hr h0] at hq
          obtain ⟨⟨q1, q2⟩, q3⟩ := hq
          by_cases e : a = nx up k
          · exact e
          · have := dc_lt hs hn D ((ah_up hs hn D hr h0).1 ⟨q1, q2⟩) e
            omega
      rw [this]
      unfold Done lk at d
      unfold nx lk
      simp only
      omega
    · have : (List.range ss.length).find? (upQ ss ss.length k) = none := by
        rw [List.find?_eq_none]
        intro a ha
        unfold upQ
        cases e : ahB ss (a : Int) (k : Int) with
        | false => simp
        | true => exact absurd (ahB_nat.1 e).2.1 hr
      rw [this]
      have := D.no k fun h => hr ((rch_order hs hn).2 ((D.done k hk).1 h))
      exact this.symm

theorem depth_is {dp : List Int} (hdp : DepOK ss.length 1000 dp) (hdeep : Deep ss.length up dp) (hno : DpNo ss.length (fun v => (v : Int) ∈ orderF ss) dp) (k : Nat) (hk : k < ss.length) : dp[k]? = some (dcN ss ss.length k : Int) := by
  by_cases hr : Rch ss [0] (-1) k
  · have key : ∀ (m v : Nat), pl v ≤ m → Rch ss [0] (-1) v → dp[v]? = some (dcN ss ss.length v : Int) := by
      intro m
      induction m with
      | zero =>
        intro v hm hv
        by_cases h0 : v = 0
        · subst h0; rw [dc_zero hs hn D]; exact hdp.2.1
        · have := (nx_low hs hn D hv h0).2.2.2
          omega
      | succ m ih =>
        intro v hm hv
        by_cases h0 : v = 0
        · subst h0; rw [dc_zero hs hn D]; exact hdp.2.1
        · obtain ⟨g1, g2, g3, g4⟩ := nx_low hs hn D hv h0
          have r := (rch_order hs hn).1 hv
          have l := D.low v r
          obtain ⟨x, hx, hx2⟩ := hdeep v l ((D.done v l).2 r) h0
          rw [ih _ (by omega) g2] at hx
          injection hx with hx
          rw [hx2, dc_up hs hn D hv h0, ← hx]
          rfl
    exact key _ k (Nat.le_refl _) hr
  · rw [hno k hk fun h => hr ((rch_order hs hn).2 h), dc_none hs hn D hr]; rfl

theorem kids_is {kids : List (List Int)} (hkk : KidsOK ss.length (fun v => (v : Int) ∈ orderF ss) up kids) (a : Nat) (ha : a < ss.length) : kids[a]? = some (kidsR ss ss.length a) := by
  obtain ⟨l, h1, h2, h3, h4⟩ := hkk a ha
  rw [h1]
  congr 1
  have hpr : ((List.range ss.length).filter fun b => decide (upR ss ss.length b = (a : Int))).Pairwise (· < ·) := (List.pairwise_lt_range).filter _
  refine srt_eq h2 ?_ h3 ?_ fun x => ?_
  · intro p q x y hpq hq hx hy
    unfold kidsR at hx hy
    rw [List.getElem?_map] at hx hy
    obtain ⟨x', hx', rfl⟩ := Option.map_eq_some_iff.1 hx
    obtain ⟨y', hy', rfl⟩ := Option.map_eq_some_iff.1 hy
    obtain ⟨p1, p2⟩ := List.getElem?_eq_some_iff.1 hx'
    obtain ⟨q1, q2⟩ := List.getElem?_eq_some_iff.1 hy'
    have := List.pairwise_iff_getElem.1 hpr p q p1 q1 hpq
    rw [p2, q2] at this
    omega
  · unfold kidsR List.Nodup
    rw [List.pairwise_map]
    exact hpr.imp fun h e => by omega
  · rw [h4]
    unfold kidsR
    rw [List.mem_map]
    constructor
    · rintro ⟨v, rfl, hr, h0, hu⟩
      have l := D.low v hr
      refine ⟨v, List.mem_filter.2 ⟨List.mem_range.2 l, ?_⟩, rfl⟩
      rw [decide_eq_true_iff, up_is hs hn D v l]
      have d := (D.done v l).2 hr
      unfold upF
      rw [if_neg h0]
      unfold Done lk at d
      unfold nx lk at hu
      omega
    · rintro ⟨v, hv, rfl⟩
      obtain ⟨hv1, hv2⟩ := List.mem_filter.1 hv
      have l := List.mem_range.1 hv1
      rw [decide_eq_true_iff, up_is hs hn D v l] at hv2
      have h0 : v ≠ 0 := fun e => by subst e; simp [upF] at hv2
      unfold upF at hv2
      rw [if_neg h0] at hv2
      have d : Done up v := by unfold Done lk; omega
      exact ⟨v, rfl, (D.done v l).1 d, h0, by unfold nx lk; omega⟩
end
end Go.Proofs.Ytdkknhpdjcdmfaa.Abs

/- On every way: the law answers yes (where its example does). -/
set_option linter.unusedSimpArgs false
set_option linter.unusedVariables false
set_option linter.unusedSectionVars false
namespace Go.Proofs.Ytdkknhpdjcdmfaa.Abs
open Go Go.RowKit Go.Proofs

theorem treeUp (h : Heap) (up dp : List Int) (kids : List (List Int)) (hn : up.length ≤ 1000) (k : Nat) (hk : k < up.length) :
    CX 36 [treeV up dp kids, I (k : Nat)] h = some (I (upF up k), h, []) := by
  have hkp : cfg.keep 36 = 0 := rfl
  obtain ⟨u, hu⟩ : ∃ u, up[k]? = some u := ⟨_, List.getElem?_eq_getElem hk⟩
  have hg : up.getD k (-1) = u := by rw [List.getD, hu]; rfl
  unfold upF
  rw [hg]
  refine CI_of Try.func36 rfl 0 ?_
  by_cases h0 : k = 0
  · rw [if_pos h0]
    subst h0
    simp (disch := omega) [Try.f36, hkp, treeV, -getElem?_pos]
  · rw [if_neg h0]
    have h1 : ¬ ((k : Nat) : Int) ≤ 0 := by omega
    have h2 : ¬ ((up.length : Nat) : Int) ≤ ((k : Nat) : Int) := by omega
    have h3 : ¬ up.length ≤ k := by omega
    simp (disch := omega) [Try.f36, hkp, treeV, h0, h1, h2, h3, hu, hk, -getElem?_pos]

def dwS (h : Heap) (f : Fn) (ts up dp : List Int) (kids : List (List Int)) (i k : Nat) (way : List Int) (v10 : V) : St :=
  ⟨[(2, .one (.ptr h.length 1 0 0)), (1, Sl (u8sOf ts)), (5, treeV up dp kids), (8, I (i : Nat)), (6, I (k : Nat)), (7, .one (.sl (h.length + 1) 1 way.length 0 way.length)), (10, v10), (4, Bo false), (1010, .junk), (1009, .junk)],
   h ++ [some (.row 5 [encFn f]), some (.row 1 (intsOf way))], []⟩
section
variable (h : Heap) (f : Fn) (hf : f.Fine) (hn : f.blocks.length ≤ 12) (ts up dp : List Int) (kids : List (List Int)) (hah : ∀ h (a b : Int), CX 34 [treeV up dp kids, I a, I b] h = some (Bo (ahB (f.blocks.map nextB) a b), h, []))
include hf hn hah
theorem dw_in (i k : Nat) (way : List Int) (hwl : way.length ≤ 1000) (W : Wayto (f.blocks.map nextB) way k) :
    lpK 8 Try.f8 82 1 h (dwS h f ts up dp kids i k way (I (0 : Nat))) = some (.exit 2, dwS h f ts up dp kids i k way (I (f.blocks.length : Nat))) := by
  have hfit : Fit way := by show way.length ≤ _; omega
  have key := loop_fun (P := Try.prog) (C := cfg) (sc := runScope Try.prog cfg 82 h.length (cfg.live 8) 0) (N := 82) (n0 := h.length) (K := cfg.live 8) (c := loopAt Try.f8 1)
    (fun a : Nat => dwS h f ts up dp kids i k way (I (a : Nat))) (fun a => a ≤ f.blocks.length) (fun a => f.blocks.length - a) (fun _ => (.exit 2, dwS h f ts up dp kids i k way (I (f.blocks.length : Nat)))) ?_ 0 (Nat.zero_le _)
  · exact key
  intro a hia
  rcases Nat.lt_or_ge a f.blocks.length with hlt | hge
  · have hltI : ((a : Nat) : Int) < ((f.blocks.length : Nat) : Int) := by omega
    have e := fun h => hah h (a : Int) (k : Int)
    simp only [treeV] at e
    refine .inl ⟨a + 1, ?_, hlt, by omega, rfl⟩
    cases hb : ahB (f.blocks.map nextB) (a : Int) (k : Int) with
    | false =>
      rw [hb] at e
      simp (disch := omega) [round_eq, dwS, treeV, encFn, Try.f8, lv8, hlt, hltI, e, wrap_i64, -getElem?_pos]
    | true =>
      rw [hb] at e
      have hm := W.ahead (ahB_nat.1 hb)
      have hc : way.contains (a : Int) = true := by simpa using hm
      simp (disch := omega) [round_eq, dwS, treeV, encFn, Try.f8, lv8, hlt, hltI, e, has _ way hfit, hc, wrap_i64, -getElem?_pos, -List.contains_eq_mem]
  · have : a = f.blocks.length := by omega
    subst this
    refine .inr ⟨?_, nofun⟩
    simp (disch := omega) [round_eq, dwS, treeV, encFn, Try.f8, lv8, -getElem?_pos]

theorem dw_out {pl : Nat → Nat} (D : Doms (f.blocks.map nextB).length (fun v => (v : Int) ∈ orderF (f.blocks.map nextB)) pl (predsF (f.blocks.map nextB)) up) (h0 : 0 < f.blocks.length) (hts : ts.length ≤ 60) (htb : ∀ c, c ∈ ts → 0 ≤ c ∧ c < 256) :
    ∃ i k way, lpK 8 Try.f8 82 0 h (dwS h f ts up dp kids 0 0 [0] .junk) = some (.exit 0, dwS h f ts up dp kids i k way .junk) := by
  have hsl : (f.blocks.map nextB).length = f.blocks.length := by simp
  have hul := D.T.len
  have key := loop_rel (P := Try.prog) (C := cfg) (sc := runScope Try.prog cfg 82 h.length (cfg.live 8) 0) (N := 82) (n0 := h.length) (K := cfg.live 8) (c := loopAt Try.f8 0)
    (fun s : Nat × Nat × List Int => dwS h f ts up dp kids s.1 s.2.1 s.2.2 .junk) (fun s => s.1 ≤ ts.length ∧ s.2.1 < f.blocks.length ∧ s.2.2.length = s.1 + 1 ∧ Wayto (f.blocks.map nextB) s.2.2 s.2.1) (fun s => ts.length - s.1)
    (fun _ r => ∃ i k way, r = (.exit 0, dwS h f ts up dp kids i k way .junk)) ?_ (0, 0, [0]) ⟨Nat.zero_le _, h0, rfl, Wayto.zero _⟩
  · obtain ⟨r, h1, i, k, way, rfl⟩ := key
    exact ⟨i, k, way, h1⟩
  rintro ⟨i, k, way⟩ ⟨j1, j2, j3, j4⟩
  simp only at j1 j2 j3 j4 ⊢
  rcases Nat.lt_or_ge i ts.length with hlt | hge
  · have hltI : ((i : Nat) : Int) < ((ts.length : Nat) : Int) := by omega
    obtain ⟨c, hc⟩ : ∃ c, ts[i]? = some c := ⟨_, List.getElem?_eq_getElem hlt⟩
    obtain ⟨c0, c1⟩ := htb c (List.mem_of_getElem? hc)
    obtain ⟨l, hl⟩ : ∃ l, f.blocks[k]? = some l := ⟨_, List.getElem?_eq_getElem j2⟩
    have e1 := fun h => next h f hf.ok hf.ended k l hl
    have hgd : (f.blocks.map nextB).getD k [] = nextB l := by rw [List.getD, List.getElem?_map, hl]; rfl
    have hE := hf.edges.each (nextB l) (List.mem_map.2 ⟨l, List.mem_of_getElem? hl, rfl⟩)
    simp [encFn] at e1
    by_cases hxs : (nextB l).length = 0
    · have hnil : nextB l = [] := List.length_eq_zero_iff.1 hxs
      rw [hnil] at e1
      refine .inr ⟨(.exit 0, dwS h f ts up dp kids i k way .junk), ?_, nofun, i, k, way, rfl⟩
      simp (disch := omega) [round_eq, dwS, treeV, encFn, Try.f8, lv8, hlt, hltI, e1, wrap_i64, -getElem?_pos]
    · obtain ⟨x, hx, hxn⟩ := rem_n c (nextB l).length c0 (by omega)
      obtain ⟨b, hb⟩ : ∃ b, (nextB l)[x]? = some b := ⟨_, List.getElem?_eq_getElem hxn⟩
      have hbm := List.mem_of_getElem? hb
      obtain ⟨b0, b1⟩ := hE.2 b hbm
      obtain ⟨k', rfl⟩ : ∃ k' : Nat, b = (k' : Int) := ⟨b.toNat, by omega⟩
      have W' := j4.step (b := k') (by rw [hgd]; exact hbm)
      have e2 := dw_in h f hf hn ts up dp kids hah i k' (way ++ [(k' : Int)]) (by simp; omega) W'
      have hk' : k' < f.blocks.length := by omega
      have e3 := fun h => treeUp h up dp kids (by omega) k' (by omega)
      have hfit : Fit (way ++ [(k' : Int)]) := by show (way ++ [(k' : Int)]).length ≤ _; simp; omega
      have hxB : (((nextB l).length : Nat) : Int) ≠ 0 := by omega
      have hxB2 : ((((nextB l).length : Nat) : Int) == 0) = false := by rw [beq_eq_false_iff_ne]; omega
      have hw1 : IntKind.i64.wrap c = c := wrap_i64 (by omega) (by omega)
      have hup : k' = 0 ∨ (way ++ [(k' : Int)]).contains (upF up k') = true := by
        by_cases hk0 : k' = 0
        · exact .inl hk0
        · right
          have h1 := ahP_up hf.edges (by omega) D W'.met hk0
          have h2 := W'.ahead h1
          have hd := (D.done k' (by omega)).2 ((rch_order hf.edges (by omega)).1 W'.met)
          have h3 : upF up k' = ((nx up k' : Nat) : Int) := by
            unfold upF
            rw [if_neg hk0]
            unfold Done lk at hd
            unfold nx lk
            omega
          rw [h3]
          simpa using h2
      refine .inl ⟨(i + 1, k', way ++ [(k' : Int)]), ?_, ⟨hlt, hk', by simp [j3], W'⟩, by simp only; omega, fun r h => h⟩
      simp [dwS, treeV, encFn, lpK, lv8, Try.f8] at e2
      simp only [treeV] at e3
      rcases hup with hk0 | hup
      · subst hk0
        have hz0 : ((0 : Nat) : Int) = 0 := rfl
        simp only [hz0] at e2 e3 hb ⊢
        simp (disch := omega) [round_eq, dwS, treeV, encFn, Try.f8, lv8, hlt, hltI, hc, e1, e2, e3, hx, hxn, hb, hxB, hxB2, hxs, hw1, room_of, intsOf_snoc, wrap_i64, -getElem?_pos]
      · have hk0B : k' = 0 ∨ ((k' : Int) != 0) = true := by
          by_cases e : k' = 0
          · exact .inl e
          · right; simp; omega
        rcases hk0B with hk0 | hk0B
        · subst hk0
          have hz0 : ((0 : Nat) : Int) = 0 := rfl
          simp only [hz0] at e2 e3 hb ⊢
          simp (disch := omega) [round_eq, dwS, treeV, encFn, Try.f8, lv8, hlt, hltI, hc, e1, e2, e3, hx, hxn, hb, hxB, hxB2, hxs, hw1, room_of, intsOf_snoc, wrap_i64, -getElem?_pos]
        · simp (disch := omega) [round_eq, dwS, treeV, encFn, Try.f8, lv8, hlt, hltI, hc, e1, e2, e3, hx, hxn, hb, hxB, hxB2, hxs, hw1, hk0B, has _ _ hfit, hup, room_of, intsOf_snoc, wrap_i64, -getElem?_pos, -List.contains_eq_mem]
  · have : i = ts.length := by omega
    subst this
    refine .inr ⟨(.exit 0, dwS h f ts up dp kids ts.length k way .junk), ?_, nofun, _, k, way, rfl⟩
    simp (disch := omega) [round_eq, dwS, treeV, encFn, Try.f8, lv8, -getElem?_pos]
end
theorem domWays (hw : CX 31 [] [] = some (Bo true, [], [])) (h : Heap) (f : Fn) (hf : f.Ok) (ts : List Int) (hts : ts.length ≤ 140737488355328) (htb : ∀ c, c ∈ ts → 0 ≤ c ∧ c < 256) :
    CX 8 [.agg (encFn f), Sl (u8sOf ts)] h = some (Bo true, h, []) := by
  have hk : cfg.keep 8 = 0 := rfl
  obtain ⟨l, e1, hl⟩ := light9 [] f hf
  refine CI_of Try.func8 rfl 0 ?_
  simp [encFn] at e1
  cases l with
  | false => simp (disch := omega) [Try.f8, lv8, hk, encFn, e1, hw, -getElem?_pos]
  | true =>
    by_cases h60 : 60 < ts.length
    · have h60I : (60 : Int) < ((ts.length : Nat) : Int) := by omega
      simp (disch := omega) [Try.f8, lv8, hk, encFn, e1, h60, h60I, hw, -getElem?_pos]
    · have h60I : ¬ (60 : Int) < ((ts.length : Nat) : Int) := by omega
      obtain ⟨g1, g2, g3⟩ := hl rfl
      have hsl : (f.blocks.map nextB).length = f.blocks.length := by simp
      obtain ⟨up, dp, kids, e2, hah, D, _⟩ := tree_of (h ++ [some (.row 5 [encFn f])]) f g1 g2 (by omega)
      rw [← hsl] at D
      obtain ⟨i, k, way, e3⟩ := dw_out h f g1 (by omega) ts up dp kids hah D g2 (by omega) htb
      simp [encFn, treeV] at e2
      simp [dwS, treeV, encFn, lpK, lv8, Try.f8] at e3
      have hz : intsOf [0] = ([[Leaf.int .i64 0]] : List (List Leaf)) := rfl
      rw [hz] at e3
      simp (disch := omega) [Try.f8, lv8, hk, encFn, e1, e2, e3, h60, h60I, hw, -getElem?_pos]
end Go.Proofs.Ytdkknhpdjcdmfaa.Abs

/- A tree of blocks: how deep one stands, and of which ones it is the last one ahead. -/
set_option linter.unusedSimpArgs false
set_option linter.unusedVariables false
set_option linter.unusedSectionVars false
namespace Go.Proofs.Ytdkknhpdjcdmfaa.Abs
open Go Go.RowKit Go.Proofs

theorem treeDepth (h : Heap) (up dp : List Int) (kids : List (List Int)) (k : Nat) (x : Int) (hk : dp[k]? = some x) : CX 38 [treeV up dp kids, I (k : Nat)] h = some (I x, h, []) := by
  have hkp : cfg.keep 38 = 0 := rfl
  have hl := (List.getElem?_eq_some_iff.1 hk).1
  have h0 : ¬ ((k : Nat) : Int) < 0 := by omega
  have h1 : ¬ ((dp.length : Nat) : Int) ≤ ((k : Nat) : Int) := by omega
  have h2 : ¬ dp.length ≤ k := by omega
  refine CI_of Try.func38 rfl 0 ?_
  simp (disch := omega) [Try.f38, hkp, treeV, h0, h1, h2, hk, hl, -getElem?_pos]
theorem treeKids (h : Heap) (up dp : List Int) (kids : List (List Int)) (k : Nat) (l : List Int) (hk : kids[k]? = some l) (hb : l.length ≤ 1000) : CX 41 [treeV up dp kids, I (k : Nat)] h = some (Sl (intsOf l), h, []) := by
  have hkp : cfg.keep 41 = 0 := rfl
  have hl := (List.getElem?_eq_some_iff.1 hk).1
  have h0 : ¬ ((k : Nat) : Int) < 0 := by omega
  have h1 : ¬ ((kids.length : Nat) : Int) ≤ ((k : Nat) : Int) := by omega
  have h2 : ¬ kids.length ≤ k := by omega
  have hsz : sized 1 (intsOf l) = true := sized_ints l
  have e1 := fun h => CI_told (P := Try.prog) (C := cfg) (f := 81) (args := [Sl (intsOf l)]) (v := Sl (intsOf l)) (by simp [cloneT]; omega) h
  refine CI_of Try.func41 rfl 0 ?_
  simp (disch := omega) [Try.f41, hkp, treeV, h0, h1, h2, hk, hl, e1, -getElem?_pos]
end Go.Proofs.Ytdkknhpdjcdmfaa.Abs

/- Down a tree: a block, and then what its kids lead to. -/
set_option linter.unusedSimpArgs false
set_option linter.unusedVariables false
set_option linter.unusedSectionVars false
namespace Go.Proofs.Ytdkknhpdjcdmfaa.Abs
open Go Go.RowKit Go.Proofs

def downF (kg : Nat → List Int) : Nat → Nat → List Int
  | 0, a => [(a : Int)]
  | m + 1, a => (a : Int) :: (kg a).flatMap fun x => downF kg m x.toNat

/-- Kids stand further on, and there is an end. -/
structure Downs (kg : Nat → List Int) (R : Nat → Prop) (pl : Nat → Nat) (n : Nat) : Prop where
  kid : ∀ (a : Nat) (x : Int), R a → x ∈ kg a → ∃ v : Nat, x = (v : Int) ∧ R v ∧ pl a < pl v
  low : ∀ v, R v → pl v < n
  few : ∀ a, (kg a).length ≤ 12

theorem flatMap_len {α β : Type} {f : α → List β} {B : Nat} : ∀ (l : List α), (∀ x, x ∈ l → (f x).length ≤ B) → (l.flatMap f).length ≤ l.length * B
  | [], _ => by simp
  | x :: l, h => by
    have h1 := h x (by simp)
    have h2 := flatMap_len l fun y hy => h y (List.mem_cons_of_mem _ hy)
    rw [List.flatMap_cons, List.length_append, List.length_cons, Nat.succ_mul]
    omega
theorem flatMap_same {α β : Type} {f g : α → List β} : ∀ (l : List α), (∀ x, x ∈ l → f x = g x) → l.flatMap f = l.flatMap g
  | [], _ => rfl
  | x :: l, h => by rw [List.flatMap_cons, List.flatMap_cons, h x (by simp), flatMap_same l fun y hy => h y (List.mem_cons_of_mem _ hy)]

section
variable {kg : Nat → List Int} {R : Nat → Prop} {pl : Nat → Nat} {n : Nat} (W : Downs kg R pl n)
include W
theorem Downs.stable : ∀ (m m' a : Nat), R a → n - pl a ≤ m → n - pl a ≤ m' → downF kg m a = downF kg m' a
  | 0, m', a, hr, h1, h2 => by have := W.low a hr; omega
  | m + 1, 0, a, hr, h1, h2 => by have := W.low a hr; omega
  | m + 1, m' + 1, a, hr, h1, h2 => by
    unfold downF
    congr 1
    refine flatMap_same _ fun x hx => ?_
    obtain ⟨v, rfl, hv, hp⟩ := W.kid a x hr hx
    have := W.low v hv
    rw [Int.toNat_natCast]
    exact Downs.stable m m' v hv (by omega) (by omega)
theorem Downs.eq {a : Nat} (hr : R a) : downF kg n a = (a : Int) :: (kg a).flatMap fun x => downF kg n x.toNat := by
  have h1 := W.stable n (n + 1) a hr (by omega) (by omega)
  rw [h1]
  rfl
theorem Downs.len : ∀ (m a : Nat), (downF kg m a).length ≤ 13 ^ m
  | 0, a => by simp [downF]
  | m + 1, a => by
    have h1 := flatMap_len (f := fun x : Int => downF kg m x.toNat) (B := 13 ^ m) (kg a) fun x _ => Downs.len m x.toNat
    have h2 := W.few a
    have h3 : 0 < 13 ^ m := Nat.pos_of_ne_zero (by simp)
    have h4 : (kg a).length * 13 ^ m ≤ 12 * 13 ^ m := Nat.mul_le_mul_right _ h2
    unfold downF
    rw [List.length_cons, Nat.pow_succ]
    omega
theorem Downs.len10 (hn : n ≤ 10) (a : Nat) : (downF kg n a).length ≤ 137858491849 := by
  have h1 := W.len n a
  have h2 : 13 ^ n ≤ 13 ^ 10 := Nat.pow_le_pow_right (by omega) hn
  omega
end

/-- What lies open, from the last one on. -/
def openF (kg : Nat → List Int) (n : Nat) (open_ : List Int) : List Int := open_.reverse.flatMap fun x => downF kg n x.toNat
theorem openF_nil (kg : Nat → List Int) (n : Nat) : openF kg n [] = [] := rfl
theorem openF_step {kg : Nat → List Int} {R : Nat → Prop} {pl : Nat → Nat} {n : Nat} (W : Downs kg R pl n) {a : Nat} (hr : R a) (rest : List Int) : openF kg n (rest ++ [(a : Int)]) = (a : Int) :: openF kg n (rest ++ (kg a).reverse) := by
  unfold openF
  rw [List.reverse_append, List.reverse_append, List.reverse_reverse, List.flatMap_append, List.flatMap_append]
  simp only [List.reverse_cons, List.reverse_nil, List.nil_append, List.flatMap_cons, List.flatMap_nil, List.append_nil, Int.toNat_natCast]
  rw [W.eq hr]
  rfl
theorem openF_len (kg : Nat → List Int) (n : Nat) : ∀ l : List Int, l.length ≤ (openF kg n l).length := by
  intro l
  have key : ∀ l : List Int, l.length ≤ (l.flatMap fun x => downF kg n x.toNat).length := by
    intro l
    induction l with
    | nil => simp
    | cons x l ih =>
      have h1 : 1 ≤ (downF kg n x.toNat).length := by cases n <;> simp [downF]
      rw [List.flatMap_cons, List.length_append, List.length_cons]
      omega
  have := key l.reverse
  rw [List.length_reverse] at this
  exact this
end Go.Proofs.Ytdkknhpdjcdmfaa.Abs

/- How deep, which is the last one ahead, and of which ones, as the document tells it. -/
set_option linter.unusedSimpArgs false
set_option linter.unusedVariables false
set_option linter.unusedSectionVars false
namespace Go.Proofs.Ytdkknhpdjcdmfaa.Abs
open Go Go.RowKit Go.Proofs

section
variable {n : Nat} {ss : List (List Int)} {rows : List (List Bool)} (G : TabG n ss rows) (hn : n ≤ 1000)
include G hn
theorem tab_ah (h : Heap) {a b : Nat} (ha : a < n) (hb : b < n) : CX 35 [Sl (tabOf rows), I (a : Nat), I (b : Nat)] h = some (Bo (ahB ss a b), h, []) := by
  obtain ⟨r, hr, hrl, hr2⟩ := G.2 a ha
  obtain ⟨x, hx, hx2⟩ := hr2 b hb
  have : x = ahB ss (a : Int) (b : Int) := by
    rw [Bool.eq_iff_iff, hx2, ahB_nat]
    exact Iff.rfl
  rw [← this]
  exact ahead9 h rows (by have := G.1; omega) a b r x hr hx (by have := G.1; omega)
theorem tab_no (h : Heap) (a b : Int) (hab : ¬ (0 ≤ a ∧ 0 ≤ b ∧ a < n ∧ b < n)) : CX 35 [Sl (tabOf rows), I a, I b] h = some (Bo false, h, []) := by
  have hk : cfg.keep 35 = 0 := rfl
  have hl := G.1
  refine CI_of Try.func35 rfl 0 ?_
  by_cases h1 : a < 0
  · simp (disch := omega) [Try.f35, hk, h1, -getElem?_pos]
  · by_cases h2 : b < 0
    · simp (disch := omega) [Try.f35, hk, h1, h2, -getElem?_pos]
    · by_cases h3 : ((rows.length : Nat) : Int) ≤ a
      · simp (disch := omega) [Try.f35, hk, h1, h2, h3, -getElem?_pos]
      · have h4 : ((rows.length : Nat) : Int) ≤ b := by omega
        simp (disch := omega) [Try.f35, hk, h1, h2, h3, h4, -getElem?_pos]

theorem dcN_next (ss : List (List Int)) (k b : Nat) : dcN ss (k + 1) b = dcN ss k b + (if (k != b && ahB ss (k : Int) (b : Int)) = true then 1 else 0) := by
  unfold dcN
  rw [List.range_succ, List.countP_append]
  simp only [List.countP_cons, List.countP_nil, Nat.zero_add]
theorem dcN_le (ss : List (List Int)) (k b : Nat) : dcN ss k b ≤ k := by
  unfold dcN
  have := List.countP_le_length (p := fun a => (a != b) && ahB ss (a : Int) (b : Int)) (l := List.range k)
  simpa using this

def dp9S (h : Heap) (rows : List (List Bool)) (b k : Nat) (c : Nat) : St := ⟨[(6, I (k : Nat)), (0, Sl (tabOf rows)), (1, I (b : Nat)), (5, I (c : Nat))], h, []⟩
theorem dp9_loop (h : Heap) (b : Nat) (hb : b < n) : lpK 39 Try.f39 25 0 h (dp9S h rows b 0 0) = some (.exit 0, dp9S h rows b n (dcN ss n b)) := by
  have hl := G.1
  have key := loop_fun (P := Try.prog) (C := cfg) (sc := runScope Try.prog cfg 25 h.length (cfg.live 39) 0) (N := 25) (n0 := h.length) (K := cfg.live 39) (c := loopAt Try.f39 0)
    (fun k : Nat => dp9S h rows b k (dcN ss k b)) (fun k => k ≤ n) (fun k => n - k) (fun _ => (.exit 0, dp9S h rows b n (dcN ss n b))) ?_ 0 (Nat.zero_le _)
  · exact key
  intro k hk
  have hc := dcN_le G hn ss k b
  rcases Nat.lt_or_ge k n with hlt | hge
  · have hltI : ((k : Nat) : Int) < ((rows.length : Nat) : Int) := by omega
    have e := fun h => tab_ah G hn h hlt hb
    refine .inl ⟨k + 1, ?_, hlt, by omega, rfl⟩
    rw [dcN_next G hn]
    generalize dcN ss k b = c at *
    by_cases hkb : k = b
    · subst hkb
      simp (disch := omega) [round_eq, dp9S, Try.f39, lv39, hltI, wrap_i64, -getElem?_pos]
    · have hkB : (((k : Nat) : Int) != ((b : Nat) : Int)) = true := by simp; omega
      have hkB2 : (k != b) = true := by simp [hkb]
      cases ha : ahB ss (k : Int) (b : Int) <;> rw [ha] at e <;> simp (disch := omega) [round_eq, dp9S, Try.f39, lv39, hltI, hkb, hkB, hkB2, e, wrap_i64, -getElem?_pos]
  · have : k = n := by omega
    subst this
    refine .inr ⟨?_, nofun⟩
    generalize dcN ss k b = c at *
    have hle : ¬ ((k : Nat) : Int) < ((rows.length : Nat) : Int) := by omega
    simp (disch := omega) [round_eq, dp9S, Try.f39, lv39, hle, -getElem?_pos]
theorem depth9 (h : Heap) (b : Nat) (hb : b < n) : CX 39 [Sl (tabOf rows), I (b : Nat)] h = some (I (dcN ss n b : Nat), h, []) := by
  have e := dp9_loop G hn h b hb
  refine CI_of Try.func39 rfl 0 ?_
  have hk : cfg.keep 39 = 0 := rfl
  simp [dp9S, lpK, lv39, Try.f39] at e
  simp (disch := omega) [Try.f39, lv39, hk, e, -getElem?_pos]

def up9S (h : Heap) (rows : List (List Bool)) (b k : Nat) (c : Nat) (v4 : Int) : St := ⟨[(0, Sl (tabOf rows)), (1, I (b : Nat)), (6, I (k : Nat)), (5, I (c : Nat)), (4, I v4)], h, []⟩
theorem up9_loop (h : Heap) (b : Nat) (hb : b < n) : (∃ u : Nat, (List.range n).find? (upQ ss n b) = some u ∧ lpK 37 Try.f37 34 0 h (up9S h rows b 0 (dcN ss n b) 0) = some (.ret, up9S h rows b u (dcN ss n b) u)) ∨
    ((List.range n).find? (upQ ss n b) = none ∧ lpK 37 Try.f37 34 0 h (up9S h rows b 0 (dcN ss n b) 0) = some (.exit 0, up9S h rows b n (dcN ss n b) 0)) := by
  have hl := G.1
  have hcb := dcN_le G hn ss n b
  have key := loop_rel (P := Try.prog) (C := cfg) (sc := runScope Try.prog cfg 34 h.length (cfg.live 37) 0) (N := 34) (n0 := h.length) (K := cfg.live 37) (c := loopAt Try.f37 0)
    (fun k : Nat => up9S h rows b k (dcN ss n b) 0) (fun k => k ≤ n ∧ (List.range k).find? (upQ ss n b) = none) (fun k => n - k)
    (fun _ r => (∃ u : Nat, (List.range n).find? (upQ ss n b) = some u ∧ r = (.ret, up9S h rows b u (dcN ss n b) u)) ∨ ((List.range n).find? (upQ ss n b) = none ∧ r = (.exit 0, up9S h rows b n (dcN ss n b) 0))) ?_ 0 ⟨Nat.zero_le _, rfl⟩
  · obtain ⟨r, h1, ⟨u, h2, rfl⟩ | ⟨h2, rfl⟩⟩ := key
    · exact .inl ⟨u, h2, h1⟩
    · exact .inr ⟨h2, h1⟩
  rintro k ⟨hk, hno⟩
  rcases Nat.lt_or_ge k n with hlt | hge
  · have hltI : ((k : Nat) : Int) < ((rows.length : Nat) : Int) := by omega
    have e := fun h => tab_ah G hn h hlt hb
    have e2 := fun h => depth9 G hn h k hlt
    have hck := dcN_le G hn ss n k
    have hnx : (List.range (k + 1)).find? (upQ ss n b) = if upQ ss n b k = true then some k else none := by
      rw [List.range_succ, List.find?_append, hno]
      simp only [Option.none_or, List.find?_cons, List.find?_nil]
      cases upQ ss n b k <;> rfl
    have hfull : upQ ss n b k = true → (List.range n).find? (upQ ss n b) = some k := fun hq => by
      have h1 : List.range n = List.range (k + 1) ++ (List.range (n - (k + 1))).map (k + 1 + ·) := by
        rw [← List.range_add]; congr 1; omega
      rw [h1, List.find?_append, hnx, if_pos hq]; rfl
    have hq0 : upQ ss n b k = ((k != b) && ahB ss (k : Int) (b : Int) && decide ((dcN ss n k : Int) = (dcN ss n b : Int) - 1)) := rfl
    generalize upQ ss n b k = uq at *
    generalize dcN ss n b = cb at *
    generalize dcN ss n k = ck at *
    by_cases hkb : k = b
    · subst hkb
      have : uq = false := by rw [hq0]; simp
      subst this
      refine .inl ⟨k + 1, ?_, ⟨hlt, by simpa using hnx⟩, by omega, fun r h => h⟩
      simp (disch := omega) [round_eq, up9S, Try.f37, lv37, hltI, wrap_i64, -getElem?_pos]
    · have hkB : (((k : Nat) : Int) != ((b : Nat) : Int)) = true := by simp; omega
      have hkB2 : (k != b) = true := by simp [hkb]
      cases ha : ahB ss (k : Int) (b : Int) with
      | false =>
        rw [ha] at e hq0
        have : uq = false := by rw [hq0]; simp
        subst this
        refine .inl ⟨k + 1, ?_, ⟨hlt, by simpa using hnx⟩, by omega, fun r h => h⟩
        simp (disch := omega) [round_eq, up9S, Try.f37, lv37, hltI, hkb, hkB, e, wrap_i64, -getElem?_pos]
      | true =>
        rw [ha] at e hq0
        by_cases hd : (ck : Int) = (cb : Int) - 1
        · have : uq = true := by rw [hq0, hkB2]; simp [hd]
          subst this
          have hdB : (((ck : Nat) : Int) == ((cb : Nat) : Int) - 1) = true := by simp [hd]
          refine .inr ⟨(.ret, up9S h rows b k cb k), ?_, nofun, .inl ⟨k, hfull rfl, rfl⟩⟩
          simp (disch := omega) [round_eq, up9S, Try.f37, lv37, hltI, hkb, hkB, e, e2, hd, hdB, wrap_i64, -getElem?_pos]
        · have : uq = false := by rw [hq0]; simp [hd]
          subst this
          have hdB : (((ck : Nat) : Int) == ((cb : Nat) : Int) - 1) = false := by simp [hd]
          refine .inl ⟨k + 1, ?_, ⟨hlt, by simpa using hnx⟩, by omega, fun r h => h⟩
          simp (disch := omega) [round_eq, up9S, Try.f37, lv37, hltI, hkb, hkB, e, e2, hd, hdB, wrap_i64, -getElem?_pos]
  · have : k = n := by omega
    subst this
    refine .inr ⟨(.exit 0, up9S h rows b k (dcN ss k b) 0), ?_, nofun, .inr ⟨hno, rfl⟩⟩
    generalize dcN ss k b = c at *
    have hle : ¬ ((k : Nat) : Int) < ((rows.length : Nat) : Int) := by omega
    simp (disch := omega) [round_eq, up9S, Try.f37, lv37, hle, -getElem?_pos]
theorem up9 (h : Heap) (b : Nat) (hb : b < n) : CX 37 [Sl (tabOf rows), I (b : Nat)] h = some (I (upR ss n b), h, []) := by
  have e2 := fun h => depth9 G hn h b hb
  have hk : cfg.keep 37 = 0 := rfl
  refine CI_of Try.func37 rfl 0 ?_
  unfold upR
  rcases up9_loop G hn h b hb with ⟨u, h1, e⟩ | ⟨h1, e⟩
  · rw [h1]
    simp [up9S, lpK, lv37, Try.f37] at e
    simp (disch := omega) [Try.f37, lv37, hk, e, e2, -getElem?_pos]
  · rw [h1]
    simp [up9S, lpK, lv37, Try.f37] at e
    simp (disch := omega) [Try.f37, lv37, hk, e, e2, -getElem?_pos]
end
end Go.Proofs.Ytdkknhpdjcdmfaa.Abs

/- Of which ones a block is the last one ahead, as the document tells it; and down. -/
set_option linter.unusedSimpArgs false
set_option linter.unusedVariables false
set_option linter.unusedSectionVars false
namespace Go.Proofs.Ytdkknhpdjcdmfaa.Abs
open Go Go.RowKit Go.Proofs

noncomputable def kidsK (ss : List (List Int)) (n a k : Nat) : List Int := ((List.range k).filter fun b => decide (upR ss n b = (a : Int))).map fun b => ((b : Nat) : Int)
theorem kidsK_next (ss : List (List Int)) (n a k : Nat) : kidsK ss n a (k + 1) = if upR ss n k = (a : Int) then kidsK ss n a k ++ [(k : Int)] else kidsK ss n a k := by
  unfold kidsK
  rw [List.range_succ, List.filter_append, List.map_append]
  by_cases h : upR ss n k = (a : Int)
  · rw [if_pos h]; simp [h]
  · rw [if_neg h]; simp [h]
theorem kidsK_len (ss : List (List Int)) (n a k : Nat) : (kidsK ss n a k).length ≤ k := by
  unfold kidsK
  have := List.length_filter_le (fun b => decide (upR ss n b = (a : Int))) (List.range k)
  simpa using this

section
variable {n : Nat} {ss : List (List Int)} {rows : List (List Bool)} (G : TabG n ss rows) (hn : n ≤ 1000)
include G hn
def kd9S (h : Heap) (rows : List (List Bool)) (a k : Nat) (out : List Int) : St := ⟨[(6, I (k : Nat)), (0, Sl (tabOf rows)), (1, I (a : Nat)), (5, .one (.sl h.length 1 out.length 0 out.length))], h ++ [some (.row 1 (intsOf out))], []⟩
theorem kd9_loop (h : Heap) (a : Nat) : lpK 42 Try.f42 27 0 h (kd9S h rows a 0 []) = some (.exit 0, kd9S h rows a n (kidsK ss n a n)) := by
  have hl := G.1
  have key := loop_fun (P := Try.prog) (C := cfg) (sc := runScope Try.prog cfg 27 h.length (cfg.live 42) 0) (N := 27) (n0 := h.length) (K := cfg.live 42) (c := loopAt Try.f42 0)
    (fun k : Nat => kd9S h rows a k (kidsK ss n a k)) (fun k => k ≤ n) (fun k => n - k) (fun _ => (.exit 0, kd9S h rows a n (kidsK ss n a n))) ?_ 0 (Nat.zero_le _)
  · exact key
  intro k hk
  have hkl := kidsK_len ss n a k
  rcases Nat.lt_or_ge k n with hlt | hge
  · have hltI : ((k : Nat) : Int) < ((rows.length : Nat) : Int) := by omega
    have e := fun h => up9 G hn h k hlt
    refine .inl ⟨k + 1, ?_, hlt, by omega, rfl⟩
    rw [kidsK_next]
    generalize kidsK ss n a k = out at *
    generalize upR ss n k = u at *
    have h0a : ¬ ((a : Nat) : Int) < 0 := by omega
    by_cases hu : u = (a : Int)
    · rw [if_pos hu]
      subst hu
      simp (disch := omega) [round_eq, kd9S, Try.f42, lv42, hltI, h0a, e, room_of, intsOf_snoc, wrap_i64, -getElem?_pos]
    · rw [if_neg hu]
      have huB : (u == (a : Int)) = false := by simp [hu]
      simp (disch := omega) [round_eq, kd9S, Try.f42, lv42, hltI, h0a, e, hu, huB, wrap_i64, -getElem?_pos]
  · have : k = n := by omega
    subst this
    refine .inr ⟨?_, nofun⟩
    generalize kidsK ss k a k = out at *
    have hle : ¬ ((k : Nat) : Int) < ((rows.length : Nat) : Int) := by omega
    simp (disch := omega) [round_eq, kd9S, Try.f42, lv42, hle, -getElem?_pos]
theorem kids9 (h : Heap) (a : Nat) : CX 42 [Sl (tabOf rows), I (a : Nat)] h = some (Sl (intsOf (kidsR ss n a)), h, []) := by
  have e := kd9_loop G hn h a
  have hkr : kidsK ss n a n = kidsR ss n a := rfl
  rw [hkr] at e
  generalize kidsR ss n a = out at *
  refine CI_of Try.func42 rfl 0 ?_
  have hk : cfg.keep 42 = 0 := rfl
  simp [kd9S, lpK, lv42, Try.f42] at e
  simp (disch := omega) [Try.f42, lv42, hk, e, -getElem?_pos]

/-! Down. -/
def dn9S (h : Heap) (rows : List (List Bool)) (i : Nat) (ks out : List Int) : St := ⟨[(0, Sl (tabOf rows)), (7, I (i : Nat)), (6, Sl (intsOf ks)), (5, .one (.sl h.length 1 out.length 0 out.length))], h ++ [some (.row 1 (intsOf out))], []⟩
theorem dn9_loop {D : Nat → List Int} {Bd : Nat} (hBd : Bd ≤ 137858491849) (h : Heap) (ks : List Int) (hks : ks.length ≤ 12) (hD : ∀ x, x ∈ ks → ∃ v : Nat, x = (v : Int) ∧ ((D v).length ≤ Bd ∧ 0 < (D v).length) ∧ ∀ h, CX 44 [Sl (tabOf rows), I (v : Nat)] h = some (Sl (intsOf (D v)), h, [])) (out : List Int) (ho : out.length ≤ 1) :
    lpK 44 Try.f44 28 0 h (dn9S h rows 0 ks out) = some (.exit 0, dn9S h rows ks.length ks (out ++ ks.flatMap fun x => D x.toNat)) := by
  have key := loop_rel (P := Try.prog) (C := cfg) (sc := runScope Try.prog cfg 28 h.length (cfg.live 44) 0) (N := 28) (n0 := h.length) (K := cfg.live 44) (c := loopAt Try.f44 0)
    (fun s : Nat × List Int => dn9S h rows s.1 ks s.2) (fun s => s.1 ≤ ks.length ∧ s.2 = out ++ (ks.take s.1).flatMap fun x => D x.toNat) (fun s => ks.length - s.1)
    (fun _ r => r = (.exit 0, dn9S h rows ks.length ks (out ++ ks.flatMap fun x => D x.toNat))) ?_ (0, out) ⟨Nat.zero_le _, by simp⟩
  · obtain ⟨r, h1, rfl⟩ := key
    exact h1
  rintro ⟨i, acc⟩ ⟨hi, hacc⟩
  simp only at hi hacc ⊢
  have hal : acc.length ≤ 1 + 12 * Bd := by
    have h1 := flatMap_len (f := fun x : Int => D x.toNat) (B := Bd) (ks.take i) fun x hx => by
      obtain ⟨v, rfl, hv, _⟩ := hD x (List.mem_of_mem_take hx)
      rw [Int.toNat_natCast]; exact hv.1
    have h2 : (ks.take i).length * Bd ≤ 12 * Bd := Nat.mul_le_mul_right _ (by rw [List.length_take]; omega)
    rw [hacc, List.length_append]
    omega
  rcases Nat.lt_or_ge i ks.length with hlt | hge
  · have hltI : ((i : Nat) : Int) < ((ks.length : Nat) : Int) := by omega
    obtain ⟨x, hx⟩ : ∃ x, ks[i]? = some x := ⟨_, List.getElem?_eq_getElem hlt⟩
    obtain ⟨v, rfl, ⟨hv, hv0⟩, e⟩ := hD x (List.mem_of_getElem? hx)
    have hne : ¬ intsOf (D v) = [] := fun e => by have := congrArg List.length e; simp at this; rw [this] at hv0; simp at hv0
    refine .inl ⟨(i + 1, acc ++ D v), ?_, ⟨hlt, ?_⟩, by simp only; omega, fun r h => h⟩
    · generalize D v = dv at *
      simp (disch := omega) [round_eq, dn9S, Try.f44, lv44, hlt, hltI, hx, e, hne, room_of, intsOf_app, wrap_i64, -getElem?_pos]
    · simp only
      rw [hacc, List.take_add_one, hx, List.flatMap_append]
      simp
  · have : i = ks.length := by omega
    subst this
    rw [List.take_length] at hacc
    refine .inr ⟨(.exit 0, dn9S h rows ks.length ks (out ++ ks.flatMap fun x => D x.toNat)), ?_, nofun, rfl⟩
    rw [← hacc]
    simp (disch := omega) [round_eq, dn9S, Try.f44, lv44, -getElem?_pos]

theorem down9 {R : Nat → Prop} {pl : Nat → Nat} (hn10 : n ≤ 10) (W : Downs (kidsR ss n) R pl n) : ∀ (m a : Nat), m ≤ 10 → R a → n - pl a ≤ m → ∀ h, CX 44 [Sl (tabOf rows), I (a : Nat)] h = some (Sl (intsOf (downF (kidsR ss n) m a)), h, [])
  | 0, a, _, hr, hm, h => by have := W.low a hr; omega
  | m + 1, a, hm10, hr, hm, h => by
    have e1 := fun h => kids9 G hn h a
    have hpow : 13 ^ m ≤ 137858491849 := by
      have : 13 ^ m ≤ 13 ^ 10 := Nat.pow_le_pow_right (by omega) (by omega)
      omega
    have e2 := dn9_loop G hn (D := downF (kidsR ss n) m) (Bd := 13 ^ m) hpow h (kidsR ss n a) (W.few a) (fun x hx => by
      obtain ⟨v, rfl, hv, hp⟩ := W.kid a x hr hx
      have := W.low v hv
      exact ⟨v, rfl, ⟨W.len m v, by cases m <;> simp [downF]⟩, fun h => down9 hn10 W m v (by omega) hv (by omega) h⟩) [(a : Int)] (by simp)
    unfold downF
    generalize (kidsR ss n a).flatMap (fun x => downF (kidsR ss n) m x.toNat) = rest at *
    generalize kidsR ss n a = ks at *
    refine CI_of Try.func44 rfl 0 ?_
    have hk : cfg.keep 44 = 0 := rfl
    simp [dn9S, lpK, lv44, Try.f44] at e2
    have h1 : [[Leaf.int .i64 (a : Int)]] = intsOf [(a : Int)] := rfl
    simp (disch := omega) [Try.f44, lv44, hk, h1, e1, e2, -getElem?_pos]
end
end Go.Proofs.Ytdkknhpdjcdmfaa.Abs

/- Down a tree of blocks, by a stack. -/
set_option linter.unusedSimpArgs false
set_option linter.unusedVariables false
set_option linter.unusedSectionVars false
namespace Go.Proofs.Ytdkknhpdjcdmfaa.Abs
open Go Go.RowKit Go.Proofs

/-! Loops over functions, in code. -/
def ranges : Code → List Code
  | .seq a b => ranges a ++ ranges b
  | .cond _ a b => ranges a ++ ranges b
  | .block _ c => ranges c
  | .loop c => ranges c
  | .scope c => ranges c
  | .rangeFunc g ps asg body => [.rangeFunc g ps asg body]
  | _ => []
noncomputable def rangeC (P : Program) (C : Cfg) (sc : Code → Code → St → CR) (N n0 : Nat) (K : List (Nat × Kd)) (xs : List (List V)) (s : St) : Code → CR
  | .rangeFunc _ ps asg body => rangeL P C sc N n0 K ps.toList asg body xs s
  | _ => none
noncomputable abbrev rgK (f : FuncId) (fn : Func) (N i : Nat) (h : Heap) (xs : List (List V)) (s : St) : CR := rangeC Try.prog cfg (runScope Try.prog cfg N h.length (cfg.live f) 0) N h.length (cfg.live f) xs s (match fn.body with | some b => nthC (ranges b) i | none => .skip)
theorem range_cons {P : Program} {C : Cfg} {sc : Code → Code → St → CR} {N n0 : Nat} {K : List (Nat × Kd)} {ps : List Nat} {asg body : Code} {x : List V} {xs : List (List V)} {s s' : St} (h : roundB P C sc N n0 K ps asg body x s = some (.normal, s')) :
    rangeL P C sc N n0 K ps asg body (x :: xs) s = rangeL P C sc N n0 K ps asg body xs s' := by
  unfold rangeL
  rw [rangeGo, h]

/-- What slices.Backward tells, from the last one on. -/
def rowB (p : Int × Nat) : List V := [I (p.2 : Nat), I p.1]
theorem bwdUp_ints (xs : List Int) (i : Nat) : bwdUp Try.prog 3 false i (intsOf xs) = some ((xs.zipIdx i).map rowB) := by
  have hs : tsize Try.prog 3 = some 1 := by kernel_rfl
  induction xs generalizing i with
  | nil => rfl
  | cons x xs ih =>
    show bwdUp Try.prog 3 false i ([.int .i64 x] :: intsOf xs) = _
    unfold bwdUp
    rw [hs, if_pos (show some 1 = some [Leaf.int .i64 x].length from rfl), ih]
    rfl
theorem itRows_ints (xs : List Int) (hl : xs.length ≤ 1000) (b : BW) (hb : b.T = 3) : itRows Try.prog b (intsOf xs) = some ((xs.zipIdx.reverse).map rowB) := by
  have ht : tagg Try.prog 3 = some false := by kernel_rfl
  unfold itRows
  rw [if_pos (by simp; omega), hb, ht]
  simp only [bwdUp_ints, List.map_reverse]

theorem op_func2 {P : Program} {cf : CF} {slot : Option Nat} {T : Tmps} {h : Heap} {dst : Option Nat} {ty : TypeId} {pos : String} {after : Array Edge} {guard : Option (Nat × Bool)} (f : FuncId) (c : Operand) :
    absOp P cf slot T h ⟨dst, .makeFunc (.func f) #[] #[c], ty, pos, after, guard⟩ = (match ev T c with | .one l => some (.one (.fn f [l]), h, []) | _ => none) := by
  simp only [absOp]
  cases hv : ev T c <;> simp [hv, List.mapM_cons, List.mapM_nil, pureR]
theorem fzT_fn1 {h : Heap} {n0 : Nat} {L : List (Option Nat)} (f : FuncId) (i a b c : Nat) : fzT h n0 L (.fn f [.ptr i a b c]) = (fzT h n0 L (.ptr i a b c)).map fun x => .fn f [x] := by
  show (mapO (fzR h n0 L) [.ptr i a b c]).map (Leaf.fn f) = (fzR h n0 L (.ptr i a b c)).map fun x => .fn f [x]
  simp only [mapO]
  cases fzR h n0 L (.ptr i a b c) <;> rfl
theorem fzL_isl {h : Heap} {n0 : Nat} {L : List (Option Nat)} (es : List (List Leaf)) : fzL h n0 L 39 (.isl es) = some (.isl es) := rfl
theorem backward (h : Heap) (es : List (List Leaf)) : CX 82 [Sl es] h = some (.one (.fn 103 [.iptr [.isl es] 0]), h, []) := by
  have hk : cfg.keep 82 = 0 := rfl
  refine CI_of Try.func82 rfl 0 ?_
  simp (disch := omega) [Try.f82, hk, op_func2, fzT_fn1, fzL_ptr, fzL_isl, elemK, -getElem?_pos]

/-! Growing a slice of one's own that was cut short. -/
def appM (s : Nat) (H : Heap) (id sz len : Nat) : Option (Nat × List (List Leaf)) → Option (List (List Leaf)) → Res
  | some r, some xs => if r.1 = s then (if xs.length = 0 then some (.one (.sl id s sz 0 len), H, []) else if len + xs.length ≤ sz then some (.one (.sl id s sz 0 (len + xs.length)), H.set id (some (.row s (r.2.take len ++ xs ++ r.2.drop (len + xs.length)))), [id]) else none) else none
  | _, _ => none
theorem append_mid {P : Program} {H : Heap} {t : TypeId} {s b : Nat} {z : List Leaf} (E : ElemT P t s b z) (x : V) (id sz len : Nat) (hl : len < sz) : appendV P none H t t (.one (.sl id s sz 0 len)) x = appM s H id sz len (rowAt H id sz) (srcOf P H s t x) := by
  obtain ⟨⟨e, h1, h2, h3⟩, h4, h9, h10⟩ := E
  obtain ⟨i, h5, h6⟩ := Option.map_eq_some_iff.1 h2
  obtain ⟨h7, h8⟩ := Prod.mk.inj h6
  simp only [appendV, h1, h5, h3, h7, h8, Option.bind_some]
  cases hx : srcOf P H s t x with
  | none => cases rowAt H id sz <;> rfl
  | some xs =>
    cases hr : rowAt H id sz with
    | none => simp [appM, show ¬ s = 0 by omega]
    | some r =>
      simp only [appM, Option.bind_some]
      by_cases hr1 : r.1 = s
      · simp [hr1, show ¬ s = 0 by omega, show ¬ len = sz by omega, show len ≤ sz by omega]
      · simp [hr1, show ¬ s = 0 by omega]
theorem app_mid {H : Heap} (x : V) (id sz len : Nat) (hl : len < sz) : appendV Try.prog none H 30 30 (.one (.sl id 1 sz 0 len)) x = appM 1 H id sz len (rowAt H id sz) (srcOf Try.prog H 1 30 x) := append_mid E30 x id sz len hl
theorem slice_pop (id sz len m : Nat) (h1 : m ≤ sz) : sliceV Try.prog 30 (.one (.sl id 1 sz 0 len)) none (some (I (m : Nat))) none = some (.one (.sl id 1 sz 0 m)) := by
  have hu : Try.prog.underlying 30 = some (.slice 3) := by kernel_rfl
  have hs : tsize Try.prog 3 = some 1 := by kernel_rfl
  unfold sliceV
  rw [hu]
  have hb : boundsV len none (some (I (m : Nat))) none = some (0, m, none) := by simp [boundsV, optNat, natOf]
  simp [hb, hs, h1]
theorem intsOf_take (op g : List Int) : (intsOf (op ++ g)).take op.length = intsOf op := by
  rw [← intsOf_app, List.take_left' (by simp)]
theorem intsOf_drop (op g : List Int) (y : Int) : (intsOf (op ++ y :: g)).drop (op.length + 1) = intsOf g := by
  have : op ++ y :: g = (op ++ [y]) ++ g := by simp
  rw [this, ← intsOf_app, List.drop_left' (by simp)]

def tdS (h : Heap) (up dp : List Int) (kids : List (List Int)) (op g out : List Int) : St :=
  ⟨[(4, .one (.ptr h.length 1 0 0)), (3, .one (.sl (h.length + 2) 1 out.length 0 out.length)), (0, treeV up dp kids), (30000, .junk)],
   h ++ [some (.row 1 [[.sl (h.length + 1) 1 (op.length + g.length) 0 op.length]]), some (.row 1 (intsOf (op ++ g))), some (.row 1 (intsOf out))], []⟩

theorem td_in (h : Heap) (up dp : List Int) (kids : List (List Int)) (out : List Int) (ho : out.length ≤ 137858491850) : ∀ (l : List (Int × Nat)) (op g : List Int), op.length + l.length ≤ 137858491850 → op.length + g.length ≤ 137858491850 →
    rgK 43 Try.f43 42 0 h (l.map rowB) (tdS h up dp kids op g out) = some (.normal, tdS h up dp kids (op ++ l.map (·.1)) (g.drop l.length) out)
  | [], op, g, _, _ => by
    simp [rgK, rangeC, ranges, nthC, Try.f43, rangeL, rangeGo]
  | (b, i) :: l, op, g, h1, h2 => by
    have ih := td_in h up dp kids out ho l (op ++ [b]) (g.drop 1) (by simp at h1 ⊢; omega) (by simp at h1 ⊢; omega)
    have e : (op ++ [b]) ++ l.map (·.1) = op ++ ((b, i) :: l).map (·.1) := by simp
    have e2 : (g.drop 1).drop l.length = g.drop ((b, i) :: l).length := by rw [List.drop_drop, List.length_cons, Nat.add_comm]
    rw [e, e2] at ih
    rw [← ih]
    clear ih e e2
    have hol : op.length ≤ 137858491849 := by simp at h1; omega
    simp only [rgK, rangeC, ranges, nthC, Try.f43, List.nil_append, List.append_nil, List.map_cons]
    refine range_cons ?_
    cases g with
    | nil => simp (disch := (first | omega | simp (disch := omega) [])) [roundB_eq, tdS, rowB, treeV, lv43, room_of, intsOf_snoc, wrap_i64, -getElem?_pos]
    | cons y g =>
      have ht := intsOf_take op (y :: g)
      have hd := intsOf_drop op g y
      have happ : intsOf op ++ [.int .i64 b] :: intsOf g = intsOf (op ++ b :: g) := by simp [intsOf]
      simp (disch := (first | omega | simp (disch := omega) [])) [roundB_eq, tdS, rowB, treeV, lv43, app_mid, appM, ht, hd, happ, room_of, intsOf_snoc, wrap_i64, -getElem?_pos]
      refine ⟨by omega, ?_⟩
      rw [intsOf_app]
      simp

theorem zip_fst (l : List Int) : (l.zipIdx.reverse).map (·.1) = l.reverse := by rw [List.map_reverse, List.zipIdx_map_fst]
section
variable {kg : Nat → List Int} {R : Nat → Prop} {pl : Nat → Nat} {n : Nat} (W : Downs kg R pl n) (hn : n ≤ 10) (h0 : R 0) (up dp : List Int) (kids : List (List Int)) (hk : ∀ a, R a → kids[a]? = some (kg a))
include W hn h0 hk
theorem td_loop (h : Heap) : ∃ g, lpK 43 Try.f43 42 0 h (tdS h up dp kids [0] [] []) = some (.exit 0, tdS h up dp kids [] g (downF kg n 0)) := by
  have hT := W.len10 hn 0
  have key := loop_rel (P := Try.prog) (C := cfg) (sc := runScope Try.prog cfg 42 h.length (cfg.live 43) 0) (N := 42) (n0 := h.length) (K := cfg.live 43) (c := loopAt Try.f43 0)
    (fun s : List Int × List Int × List Int => tdS h up dp kids s.1 s.2.1 s.2.2)
    (fun s => (∀ x, x ∈ s.1 → ∃ v : Nat, x = (v : Int) ∧ R v) ∧ s.2.2 ++ openF kg n s.1 = downF kg n 0 ∧ s.1.length + s.2.1.length ≤ 137858491850) (fun s => (openF kg n s.1).length)
    (fun _ r => ∃ g, r = (.exit 0, tdS h up dp kids [] g (downF kg n 0))) ?_ ([0], [], []) ⟨fun x hx => ⟨0, by simpa using hx, h0⟩, by simp [openF], by simp⟩
  · obtain ⟨r, h1, g, rfl⟩ := key
    exact ⟨g, h1⟩
  rintro ⟨op, g, out⟩ ⟨j1, j2, j3⟩
  simp only at j1 j2 j3 ⊢
  have hlen : out.length + (openF kg n op).length ≤ 137858491849 := by
    have := congrArg List.length j2
    rw [List.length_append] at this
    omega
  rcases List.eq_nil_or_concat op with rfl | ⟨rest, k, rfl⟩
  · rw [openF_nil, List.append_nil] at j2
    refine .inr ⟨(.exit 0, tdS h up dp kids [] g out), ?_, nofun, g, by rw [j2]⟩
    simp (disch := (first | omega | simp (disch := omega) [])) [round_eq, tdS, treeV, Try.f43, lv43, -getElem?_pos]
  · rw [List.concat_eq_append] at *
    obtain ⟨a, rfl, ha⟩ := j1 k (by simp)
    have hst := openF_step W ha rest
    rw [hst] at j2 hlen
    have hka := hk a ha
    have hfew := W.few a
    have hnew := openF_len kg n (rest ++ (kg a).reverse)
    have hkid := W.kid a
    generalize kg a = l at *
    have hal := (List.getElem?_eq_some_iff.1 hka).1
    simp only [List.length_append, List.length_cons, List.length_nil, List.length_reverse] at j3 hlen hnew
    have e := td_in h up dp kids (out ++ [(a : Int)]) (by simp; omega) l.zipIdx.reverse rest ((a : Int) :: g) (by simp; omega) (by simp; omega)
    rw [zip_fst] at e
    have hzl : l.zipIdx.reverse.length = l.length := by simp
    rw [hzl] at e
    have er := fun b hb => itRows_ints l (by omega) b hb
    have eb := fun h => backward h (intsOf l)
    refine .inl ⟨(rest ++ l.reverse, ((a : Int) :: g).drop l.length, out ++ [(a : Int)]), ?_, ⟨fun x hx => ?_, ?_, ?_⟩, ?_, fun r h => h⟩
    · generalize l.zipIdx.reverse.map rowB = rows at *
      generalize rest ++ l.reverse = op' at *
      generalize ((a : Int) :: g).drop l.length = g' at *
      have hget : (rest ++ (a : Int) :: g)[rest.length]? = some (a : Int) := by simp
      have hsz : rest.length + 1 + g.length = rest.length + (g.length + 1) := by omega
      have hpop := slice_pop (h.length + 1) (rest.length + (g.length + 1)) (rest.length + 1) rest.length (by omega)
      simp [tdS, treeV, rgK, rangeC, ranges, nthC, lv43, Try.f43] at e
      simp (disch := (first | omega | simp (disch := omega) [])) [round_eq, tdS, treeV, Try.f43, lv43, hsz, hpop, hget, hka, hal, e, er, eb, itOf, room_of, intsOf_snoc, wrap_i64, -getElem?_pos]
    · rcases List.mem_append.1 hx with hx | hx
      · exact j1 x (by simp [hx])
      · obtain ⟨v, h1, h2, _⟩ := hkid x ha (by simpa using hx)
        exact ⟨v, h1, h2⟩
    · simp only
      rw [← j2]
      simp
    · simp only [List.length_append, List.length_reverse, List.length_drop, List.length_cons]
      omega
    · simp only
      rw [hst]
      simp
theorem treeDown (h : Heap) : CX 43 [treeV up dp kids] h = some (Sl (intsOf (downF kg n 0)), h, []) := by
  have hT := W.len10 hn 0
  obtain ⟨g, e⟩ := td_loop W hn h0 up dp kids hk h
  generalize downF kg n 0 = out at *
  have hkp : cfg.keep 43 = 0 := rfl
  refine CI_of Try.func43 rfl 0 ?_
  simp [tdS, treeV, lpK, lv43, Try.f43] at e
  simp (disch := (first | omega | simp (disch := omega) [])) [Try.f43, lv43, hkp, treeV, show [[Leaf.int .i64 0]] = intsOf [0] from rfl, e, room_of, -getElem?_pos]
end
end Go.Proofs.Ytdkknhpdjcdmfaa.Abs

/- Which blocks stand ahead of which, which is the last one, how deep, and in which order they go down: the law answers yes (where its example does). -/
set_option linter.unusedSimpArgs false
set_option linter.unusedVariables false
set_option linter.unusedSectionVars false
namespace Go.Proofs.Ytdkknhpdjcdmfaa.Abs
open Go Go.RowKit Go.Proofs

def dtS (h : Heap) (f : Fn) (up dp : List Int) (kids : List (List Int)) (rows : List (List Bool)) (k : Nat) (v10 : V) : St :=
  ⟨[(3, .one (.ptr h.length 1 0 0)), (7, treeV up dp kids), (8, Sl (tabOf rows)), (9, I (k : Nat)), (10, v10), (6, Bo false)], h ++ [some (.row 5 [encFn f])], []⟩

section
variable (f : Fn) (hn : f.blocks.length ≤ 10) (h : Heap) (up dp : List Int) (kids : List (List Int)) (rows : List (List Bool)) (G : TabG f.blocks.length (f.blocks.map nextB) rows)
  (hah : ∀ h (a b : Int), CX 34 [treeV up dp kids, I a, I b] h = some (Bo (ahB (f.blocks.map nextB) a b), h, []))
include hn G hah
theorem dt_in (k : Nat) (hk : k < f.blocks.length) : lpK 7 Try.f7 89 1 h (dtS h f up dp kids rows k (I (0 : Nat))) = some (.exit 2, dtS h f up dp kids rows k (I (f.blocks.length : Nat))) := by
  have key := loop_fun (P := Try.prog) (C := cfg) (sc := runScope Try.prog cfg 89 h.length (cfg.live 7) 0) (N := 89) (n0 := h.length) (K := cfg.live 7) (c := loopAt Try.f7 1)
    (fun j : Nat => dtS h f up dp kids rows k (I (j : Nat))) (fun j => j ≤ f.blocks.length) (fun j => f.blocks.length - j) (fun _ => (.exit 2, dtS h f up dp kids rows k (I (f.blocks.length : Nat)))) ?_ 0 (Nat.zero_le _)
  · exact key
  intro j hj
  rcases Nat.lt_or_ge j f.blocks.length with hlt | hge
  · have hltI : ((j : Nat) : Int) < ((f.blocks.length : Nat) : Int) := by omega
    have e1 := fun h => hah h (j : Int) (k : Int)
    have e2 := fun h => tab_ah G (by omega) h hlt hk
    refine .inl ⟨j + 1, ?_, hlt, by omega, rfl⟩
    generalize ahB (f.blocks.map nextB) (j : Int) (k : Int) = x at *
    simp only [treeV] at e1
    cases x <;> simp (disch := omega) [round_eq, dtS, treeV, encFn, Try.f7, lv7, hlt, hltI, e1, e2, wrap_i64, -getElem?_pos]
  · have : j = f.blocks.length := by omega
    subst this
    refine .inr ⟨?_, nofun⟩
    simp (disch := omega) [round_eq, dtS, treeV, encFn, Try.f7, lv7, -getElem?_pos]

theorem dt_out (hup : ∀ k, k < f.blocks.length → upR (f.blocks.map nextB) f.blocks.length k = upF up k) (hdp : ∀ k, k < f.blocks.length → dp[k]? = some (dcN (f.blocks.map nextB) f.blocks.length k : Int)) (hkd : ∀ k, k < f.blocks.length → kids[k]? = some (kidsR (f.blocks.map nextB) f.blocks.length k)) (hul : up.length = f.blocks.length) :
    ∃ v10, (v10 = .junk ∨ v10 = I (f.blocks.length : Nat)) ∧ lpK 7 Try.f7 89 0 h (dtS h f up dp kids rows 0 .junk) = some (.exit 0, dtS h f up dp kids rows f.blocks.length v10) := by
  have key := loop_rel (P := Try.prog) (C := cfg) (sc := runScope Try.prog cfg 89 h.length (cfg.live 7) 0) (N := 89) (n0 := h.length) (K := cfg.live 7) (c := loopAt Try.f7 0)
    (fun s : Nat × V => dtS h f up dp kids rows s.1 s.2) (fun s => s.1 ≤ f.blocks.length ∧ (s.2 = .junk ∨ s.2 = I (f.blocks.length : Nat))) (fun s => f.blocks.length - s.1)
    (fun _ r => ∃ v10, (v10 = .junk ∨ v10 = I (f.blocks.length : Nat)) ∧ r = (.exit 0, dtS h f up dp kids rows f.blocks.length v10)) ?_ (0, .junk) ⟨Nat.zero_le _, .inl rfl⟩
  · obtain ⟨r, h1, v10, h2, rfl⟩ := key
    exact ⟨v10, h2, h1⟩
  rintro ⟨k, v10⟩ ⟨hk, hv⟩
  simp only at hk hv ⊢
  rcases Nat.lt_or_ge k f.blocks.length with hlt | hge
  · have hltI : ((k : Nat) : Int) < ((f.blocks.length : Nat) : Int) := by omega
    have e1 := fun h => treeUp h up dp kids (by omega) k (by omega)
    have e2 := fun h => up9 G (by omega) h k hlt
    rw [hup k hlt] at e2
    have e3 := fun h => treeDepth h up dp kids k _ (hdp k hlt)
    have e4 := fun h => depth9 G (by omega) h k hlt
    have hkl : (kidsR (f.blocks.map nextB) f.blocks.length k).length ≤ f.blocks.length := kidsK_len _ _ k _
    have e5 := fun h => treeKids h up dp kids k _ (hkd k hlt) (by omega)
    have e6 := fun h => kids9 G (by omega) h k
    have e7 := fun h => ints h (kidsR (f.blocks.map nextB) f.blocks.length k) (kidsR (f.blocks.map nextB) f.blocks.length k) (by show List.length _ ≤ _; omega)
    have e8 := dt_in f hn h up dp kids rows G hah k hlt
    generalize kidsR (f.blocks.map nextB) f.blocks.length k = kd at *
    generalize dcN (f.blocks.map nextB) f.blocks.length k = dc at *
    generalize upF up k = u at *
    simp only [treeV] at e1 e3 e5
    simp [dtS, treeV, encFn, lpK, lv7, Try.f7] at e8
    refine .inl ⟨(k + 1, I (f.blocks.length : Nat)), ?_, ⟨hlt, .inr rfl⟩, by simp only; omega, fun r h => h⟩
    rcases hv with rfl | rfl <;> simp (disch := omega) [round_eq, dtS, treeV, encFn, Try.f7, lv7, hlt, hltI, e1, e2, e3, e4, e5, e6, e7, e8, wrap_i64, -getElem?_pos]
  · have : k = f.blocks.length := by omega
    subst this
    refine .inr ⟨(.exit 0, dtS h f up dp kids rows f.blocks.length v10), ?_, nofun, v10, hv, rfl⟩
    rcases hv with rfl | rfl <;> simp (disch := omega) [round_eq, dtS, treeV, encFn, Try.f7, lv7, -getElem?_pos]
end

/-- By the table, of any two numbers. -/
theorem tab_all {n : Nat} {ss : List (List Int)} {rows : List (List Bool)} (G : TabG n ss rows) (hn : n ≤ 1000) (hlow : ∀ v, Rch ss [0] (-1) v → v < n) (h : Heap) (a b : Int) : CX 35 [Sl (tabOf rows), I a, I b] h = some (Bo (ahB ss a b), h, []) := by
  by_cases hab : 0 ≤ a ∧ 0 ≤ b ∧ a < n ∧ b < n
  · have := tab_ah G hn h (a := a.toNat) (b := b.toNat) (by omega) (by omega)
    rw [Int.toNat_of_nonneg hab.1, Int.toNat_of_nonneg hab.2.1] at this
    exact this
  · have hf : ahB ss a b = false := by
      cases e : ahB ss a b with
      | false => rfl
      | true =>
        obtain ⟨h1, h2, h3⟩ := ahB_iff.1 e
        have := hlow _ h3.1
        have := hlow _ h3.2.1
        exact absurd ⟨h1, h2, by omega, by omega⟩ hab
    rw [hf]
    exact tab_no G hn h a b hab

theorem domTells (hw : CX 31 [] [] = some (Bo true, [], [])) (h : Heap) (f : Fn) (hf : f.Ok) (a b : Int) : CX 7 [.agg (encFn f), I a, I b] h = some (Bo true, h, []) := by
  have hk : cfg.keep 7 = 0 := rfl
  obtain ⟨l, e1, hl⟩ := light9 [] f hf
  refine CI_of Try.func7 rfl 0 ?_
  simp [encFn] at e1
  cases l with
  | false => simp (disch := omega) [Try.f7, lv7, hk, encFn, e1, hw, -getElem?_pos]
  | true =>
    obtain ⟨g1, g2, g3⟩ := hl rfl
    have hsl : (f.blocks.map nextB).length = f.blocks.length := by simp
    obtain ⟨up, dp, kids, e2, hah, D, hdp, hdeep, hkn, hno, hkk⟩ := tree_of (h ++ [some (.row 5 [encFn f])]) f g1 g2 (by omega)
    obtain ⟨rows, G, e3⟩ := table (h ++ [some (.row 5 [encFn f])]) f g1 g2
    rw [← hsl] at D hdp hdeep hno hkk
    have hE := g1.edges
    have hup := up_is hE (by omega) D
    have hdx := depth_is hE (by omega) D hdp hdeep hno
    have hkx := kids_is hE (by omega) D hkk
    have hul := D.T.len
    have hlow : ∀ v, Rch (f.blocks.map nextB) [0] (-1) v → v < f.blocks.length := fun v hv => by
      have := D.low v ((rch_order hE (by omega)).1 hv)
      omega
    have W : Downs (kidsR (f.blocks.map nextB) f.blocks.length) (fun v => Rch (f.blocks.map nextB) [0] (-1) v) (plF f.blocks.length (orderF (f.blocks.map nextB))) f.blocks.length := by
      have hP : 0 < (f.blocks.map nextB).length := by omega
      have hL : (f.blocks.map nextB).length ≤ 10 := by omega
      rw [← hsl]
      rw [← hsl] at hlow
      refine ⟨fun a x hr hx => ?_, fun v hr => ?_, fun a => ?_⟩
      · have ha := hlow a hr
        obtain ⟨l, k1, k2, k3, k4⟩ := hkk a ha
        have h1 := hkx a ha
        rw [k1] at h1
        cases h1
        obtain ⟨v, rfl, kR, k0, ku⟩ := (k4 x).1 hx
        have h2 := (rch_order hE hP).2 kR
        have h3 := (nx_low hE hP D h2 k0).2.2.2
        exact ⟨v, rfl, h2, by rw [ku] at h3; exact h3⟩
      · have hD := dom_in hE hP
        have h1 := hD.all v ((rch_order hE hP).1 hr)
        have h2 := hD.max
        omega
      · have := kidsK_len (f.blocks.map nextB) (f.blocks.map nextB).length a (f.blocks.map nextB).length
        show (kidsR _ _ a).length ≤ 12
        have h2 : kidsK (f.blocks.map nextB) (f.blocks.map nextB).length a (f.blocks.map nextB).length = kidsR (f.blocks.map nextB) (f.blocks.map nextB).length a := rfl
        rw [h2] at this
        omega
    rw [hsl] at hup hdx hkx hul
    have hR0 : Rch (f.blocks.map nextB) [0] (-1) 0 := .start (by simp) (by omega)
    have e4 := fun h => treeDown W g3 hR0 up dp kids (fun a ha => hkx a (hlow a ha)) h
    have e5 := fun h => down9 G (by omega) g3 W f.blocks.length 0 g3 hR0 (by omega) h
    have hz0 : ((0 : Nat) : Int) = 0 := rfl
    rw [hz0] at e5
    have hT := W.len10 g3 0
    have e6 := fun h => hah h a b
    have e7 := fun h => tab_all G (by omega) hlow h a b
    obtain ⟨v10, hv, e8⟩ := dt_out f g3 h up dp kids rows G hah hup hdx hkx hul
    generalize downF (kidsR (f.blocks.map nextB) f.blocks.length) f.blocks.length 0 = dn at *
    have e9 := fun h => ints h dn dn (by show dn.length ≤ _; omega)
    generalize ahB (f.blocks.map nextB) a b = x at *
    simp only [treeV] at e4 e6
    simp [encFn, treeV] at e2 e3
    simp [dtS, treeV, encFn, lpK, lv7, Try.f7] at e8
    rcases hv with rfl | rfl <;> cases x <;> simp (disch := omega) [Try.f7, lv7, hk, encFn, e1, e2, e3, e4, e5, e6, e7, e8, e9, hw, -getElem?_pos]
end Go.Proofs.Ytdkknhpdjcdmfaa.Abs

namespace Go.Proofs.Ytdkknhpdjcdmfaa.domTells
open Go.ChangeShapes Go.WideShapes Go.ChangeAt Go.RowKit Go.Proofs.Ytdkknhpdjcdmfaa.Abs
set_option linter.unusedVariables false
theorem own : ownKnob Try.prog.godebug = none := by kernel_rfl
theorem laidOut : laidOutB Try.prog = true := by kernel_rfl
theorem mixed : Try.prog.follows .mixedOrders = true := by kernel_rfl
theorem int_of {v : V} (h : TypedV (.int .i64) v) : ∃ n : Int, v = I n := by
  obtain ⟨l, rfl, n, e, hn⟩ := h
  cases e
  exact ⟨n, rfl⟩
theorem law (vs : List V) (h : TypedVs [tFn, .int .i64, .int .i64] vs) : ∃ (K : Cfg) (k : Nat) (h : Heap) (ws : List Nat), CfgOK Try.prog K ∧ absCall Try.prog K k 7 vs [] = some (.one (.bool true), h, ws) := by
  simp only [TypedVs] at h
  obtain ⟨v, _, rfl, h1, a, _, rfl, h2, b, _, rfl, h3, rfl⟩ := h
  obtain ⟨f, rfl, hf⟩ := typed_fn h1
  obtain ⟨a, rfl⟩ := int_of h2
  obtain ⟨b, rfl⟩ := int_of h3
  obtain ⟨k, hk⟩ := CI_call (domTells works09 [] f hf a b)
  exact ⟨cfg, k, _, _, cfg_ok, hk⟩
set_option maxRecDepth 100000 in
theorem lifted (os : Os) (started : os.Started) (H : Type) (enc : TypeId × Value → H) :
    ReturnsInHanded {} Try.checked os 7 .any (Rows.domTellsSpec.pre6 enc Try.prog Try.f7 Rows.domTellsRow.domain false) (Rows.domTellsSpec.post enc Try.prog Try.f7 false true false false) := by
  refine law_lifted (C := Try.checked) (tys := [tFn, .int .i64, .int .i64]) (rt := 4) own started (by kernel_rfl) Try.func7
    (ChangeSpec.witness6 (enc := enc) (C := Try.checked) false ⟨#[], #[.agg #[.string ⟨#[]⟩, .slice none 0 0, .int .i64 0, .slice none 0 0, .int .i64 0], .int .i64 0, .int .i64 0], []⟩ 8 (by kernel_rfl) (by kernel_rfl) (by kernel_rfl) (by kernel_rfl))
    mixed laidOut rfl (fun ds h => ?_) (by kernel_rfl) (by kernel_rfl) (by kernel_rfl) (by kernel_rfl) law
  match ds, h with
  | [a, b, c], _ => rfl
theorem over : Rows.domTellsRow.holds Try.pinned (OpenSpec.ofChange Rows.domTellsSpec) :=
  OpenClaim.holds_of_wide 7 Try.f7 rfl rfl rfl rfl rfl rfl rfl ⟨rfl, rfl, rfl, rfl, rfl⟩ rfl rfl rfl rfl rfl (by kernel_rfl) Try.func7 (by kernel_rfl)
    (of_decide_eq_true (by kernel_rfl)) (by unfold Func.isWrapper; first | (rw [if_pos (by decide +kernel)]; kernel_rfl) | (rw [if_neg (by decide +kernel)]; exact ⟨rfl, rfl⟩))
    (fun os started H enc _ => lifted os started H enc)
theorem proved : Rows.DomTellsSaid := over
end Go.Proofs.Ytdkknhpdjcdmfaa.domTells
#print axioms Go.Proofs.Ytdkknhpdjcdmfaa.domTells.proved
