/- YtdkknhpdjcdmfaaJD45: texts that follow each other, as one. -/
import Derived.Test.YtdkknhpdjcdmfaaJD44
/- dom.Of: the loops that tell links. -/
set_option linter.unusedSimpArgs false
set_option linter.unusedVariables false
namespace Go.Proofs.Ytdkknhpdjcdmfaa.Abs
open Go Go.RowKit Go.Proofs

def copK (s : Nat) (H : Heap) (id sz : Nat) : Option (Nat × List (List Leaf)) → Option (List (List Leaf)) → Res
  | some r, some xs => if r.1 = s ∧ sz ≠ 0 then (if xs.length = sz then some (.one (.int .i64 (sz : Nat)), H.set id (some (.row s xs)), [id]) else
      some (.one (.int .i64 (Nat.min xs.length sz : Nat)), H.set id (some (.row s (xs.take (Nat.min xs.length sz) ++ r.2.drop (Nat.min xs.length sz)))), [id])) else none
  | _, _ => none
theorem copy_sl {P : Program} {H : Heap} {t : TypeId} {s b : Nat} {z : List Leaf} (E : ElemT P t s b z) (x : V) (id sz : Nat) : copyV P H t t (.one (.sl id s sz 0 sz)) x = copK s H id sz (rowAt H id sz) (srcOf P H s t x) := by
  obtain ⟨⟨e, h1, h2, h3⟩, h4, h9, h10⟩ := E
  obtain ⟨i, h5, h6⟩ := Option.map_eq_some_iff.1 h2
  obtain ⟨h7, h8⟩ := Prod.mk.inj h6
  simp only [copyV, h1, h5, h7, h8, Option.bind_some]
  cases hx : srcOf P H s t x with
  | none => cases rowAt H id sz <;> simp [copK]
  | some xs =>
    cases hr : rowAt H id sz with
    | none => simp [copK]
    | some r =>
      obtain ⟨g1, g2⟩ := rowAt_some hr
      simp only [copK, Option.bind_some]
      by_cases hr1 : r.1 = s
      · by_cases hz : sz = 0
        · simp [hr1, hz]
        · by_cases hl : xs.length = sz
          · simp [hr1, hz, hl, Nat.min_self, g2]
            rw [List.drop_eq_nil_of_le (by rw [g2]; exact Nat.le_refl _), List.append_nil, ← hl, List.take_length]
          · simp [hr1, hz, hl]
      · simp [hr1]
theorem cop41 {H : Heap} (x : V) (id sz : Nat) : copyV Try.prog H 30 30 (.one (.sl id 1 sz 0 sz)) x = copK 1 H id sz (rowAt H id sz) (srcOf Try.prog H 1 30 x) := copy_sl E30 x id sz
theorem op_copy {P : Program} {cf : CF} {slot : Option Nat} {t : Tmps} {h : Heap} {dst : Option Nat} {ty : TypeId} {pos : String} {after : Array Edge} {guard : Option (Nat × Bool)} (x y : Operand) (a b : TypeId) :
    absOp P cf slot t h ⟨dst, .call { callee := .builtin .copy, args := #[x, y], argTypes := #[a, b] }, ty, pos, after, guard⟩ = copyV P h a b (ev t x) (ev t y) := rfl

structure DT where
  v35 : V
  v34 : V
  v6 : V
  v67 : V
  v66 : V
  v65 : V
  v8 : V
  v11 : V
  v76 : V
  v75 : V
  v74 : V
  v12 : V
  v7 : V
  v116 : V
  v115 : V
  v114 : V
  v174 : V
  v173 : V
  v172 : V
def domT (n0 n : Nat) (v9 : V) (d : DT) : Tmps :=
  [(1, .one (.ptr n0 1 0 0)), (3, I (n : Nat)), (35, d.v35), (34, d.v34), (9, v9), (6, d.v6), (67, d.v67), (66, d.v66), (65, d.v65), (8, d.v8), (11, d.v11), (76, d.v76), (75, d.v75), (74, d.v74), (12, d.v12), (7, d.v7), (116, d.v116), (115, d.v115), (114, d.v114), (174, d.v174), (173, d.v173), (172, d.v172), (4, .one (.ptr (n0 + 2) 1 0 0))]
def domS (h : Heap) (f : Fn) (v9 : V) (bw : Option AO) (up dp : List Int) (kids : List (List Int)) (d : DT) : St :=
  ⟨domT h.length f.blocks.length v9 d, h ++ domH h.length f.blocks.length (some (.row 5 [encFn f])) bw up dp kids, []⟩
def jT : DT := ⟨.junk, .junk, .junk, .junk, .junk, .junk, .junk, .junk, .junk, .junk, .junk, .junk, .junk, .junk, .junk, .junk, .junk, .junk, .junk⟩

theorem encFn_pl (f : Fn) : (encFn f).all plL = true := rfl

theorem of_fill (h : Heap) (f : Fn) (hn : f.blocks.length ≤ 1000) (dp : List Int) (kids : List (List Int)) (hkn : kids.length = f.blocks.length) :
    lpK 32 Try.f32 182 0 h (domS h f .junk none (negs f.blocks.length 0) dp kids { jT with v35 := I (0 : Nat), v34 := I (f.blocks.length : Nat) }) = some (.exit 0, domS h f .junk none (List.replicate f.blocks.length (-1)) dp kids { jT with v35 := I (f.blocks.length : Nat), v34 := I (f.blocks.length : Nat) }) := by
  have key := loop_fun (P := Try.prog) (C := cfg) (sc := runScope Try.prog cfg 182 h.length (cfg.live 32) 0) (N := 182) (n0 := h.length) (K := cfg.live 32) (c := loopAt Try.f32 0)
    (fun i : Nat => domS h f .junk none (negs f.blocks.length i) dp kids { jT with v35 := I (i : Nat), v34 := I (f.blocks.length : Nat) }) (fun i => i ≤ f.blocks.length) (fun i => f.blocks.length - i)
    (fun _ => (.exit 0, domS h f .junk none (List.replicate f.blocks.length (-1)) dp kids { jT with v35 := I (f.blocks.length : Nat), v34 := I (f.blocks.length : Nat) })) ?_ 0 (Nat.zero_le _)
  · exact key
  intro i hi
  have hl := negs_length hi
  rcases Nat.lt_or_ge i f.blocks.length with hlt | hge
  · have hltI : ((i : Nat) : Int) < ((f.blocks.length : Nat) : Int) := by omega
    obtain ⟨y, hy⟩ : ∃ y, (negs f.blocks.length i)[i]? = some y := ⟨_, List.getElem?_eq_getElem (by omega)⟩
    refine .inl ⟨i + 1, ?_, hlt, by omega, rfl⟩
    simp (disch := (first | omega | simp (disch := omega) [hl])) [round_eq, domS, domT, jT, domH, encFn, Try.f32, lvOf, hlt, hltI, hl, hy, wrap_i64, intsOf_set, negs_set hlt, -getElem?_pos, -tidy_eq]
    refine (tidy_dom' hkn ?_ (.inl ⟨rfl, rfl⟩) ?_ ?_).trans ?_ <;> simp (disch := omega) [domK_p, domK_b, domK_s, domK_b2, domK_nil, domH]
  · have : i = f.blocks.length := by omega
    subst this
    refine .inr ⟨?_, nofun⟩
    have hz : negs f.blocks.length f.blocks.length = List.replicate f.blocks.length (-1) := by simp [negs]
    simp (disch := (first | omega | simp (disch := omega) [hl])) [round_eq, domS, domT, jT, domH, encFn, Try.f32, lvOf, hz, -getElem?_pos, -tidy_eq]
    refine (tidy_dom' hkn ?_ (.inl ⟨rfl, rfl⟩) ?_ ?_).trans ?_ <;> simp (disch := omega) [domK_p, domK_b, domK_s, domK_b2, domK_nil, domH]
end Go.Proofs.Ytdkknhpdjcdmfaa.Abs

/- dom.Of: the last one ahead of all from which a block is gone to. -/
set_option linter.unusedSimpArgs false
set_option linter.unusedVariables false
namespace Go.Proofs.Ytdkknhpdjcdmfaa.Abs
open Go Go.RowKit Go.Proofs

structure DT.Ok (d : DT) : Prop where
  o35 : plV d.v35 = true
  o34 : plV d.v34 = true
  o6 : plV d.v6 = true
  o67 : plV d.v67 = true
  o66 : plV d.v66 = true
  o65 : plV d.v65 = true
  o8 : plV d.v8 = true
  o11 : plV d.v11 = true
  o76 : plV d.v76 = true
  o75 : plV d.v75 = true
  o74 : plV d.v74 = true
  o12 : plV d.v12 = true
  o7 : plV d.v7 = true
  o116 : plV d.v116 = true
  o115 : plV d.v115 = true
  o114 : plV d.v114 = true
  o174 : plV d.v174 = true
  o173 : plV d.v173 = true
  o172 : plV d.v172 = true
theorem jT_ok : jT.Ok := ⟨rfl, rfl, rfl, rfl, rfl, rfl, rfl, rfl, rfl, rfl, rfl, rfl, rfl, rfl, rfl, rfl, rfl, rfl, rfl⟩

def bestS (up : List Int) (pl : Nat → Nat) (M : Nat) (best p : Int) : Int :=
  if lk up p.toNat < 0 then best else if best < 0 then p else (meetN up pl M best.toNat p.toNat : Nat)
def BestOK (n : Nat) (up : List Int) (best : Int) : Prop := best < 0 ∨ (0 ≤ best ∧ best.toNat < n ∧ Done up best.toNat)

theorem of_best (h : Heap) (f : Fn) (v9 : V) (bw : Option AO) (hw9 : WasOK h.length f.blocks.length v9 bw) (up dp : List Int) (kids : List (List Int)) (hkn : kids.length = f.blocks.length) (hn : f.blocks.length ≤ 1000) {pl : Nat → Nat} (T : Tr f.blocks.length pl up)
    (at_ : List Int) (hal : at_.length = f.blocks.length) (hat : ∀ v, v < f.blocks.length → Done up v → at_[v]? = some (pl v : Int)) (M : Nat) (hM : ∀ a b, a < f.blocks.length → b < f.blocks.length → Done up a → Done up b → pl a + pl b < M)
    (ps : List Int) (hps : ps.length ≤ 100000) (hp : ∀ p, p ∈ ps → 0 ≤ p ∧ p < f.blocks.length) (d : DT) (hd : d.Ok) (h7 : d.v7 = Sl (intsOf at_)) (best : Int) (hb : BestOK f.blocks.length up best) :
    lpK 32 Try.f32 182 3 h (domS h f v9 bw up dp kids { d with v76 := I (0 : Nat), v75 := I (ps.length : Nat), v74 := Sl (intsOf ps), v12 := I best }) =
      some (.exit 6, domS h f v9 bw up dp kids { d with v76 := I (ps.length : Nat), v75 := I (ps.length : Nat), v74 := Sl (intsOf ps), v12 := I (ps.foldl (bestS up pl M) best) }) := by
  obtain ⟨v35, v34, v6, v67, v66, v65, v8, v11, v76, v75, v74, v12, v7, v116, v115, v114, v174, v173, v172⟩ := d
  obtain ⟨o35, o34, o6, o67, o66, o65, o8, o11, o76, o75, o74, o12, o7, o116, o115, o114, o174, o173, o172⟩ := hd
  simp only at o35 o34 o6 o67 o66 o65 o8 o11 o76 o75 o74 o12 o7 o116 o115 o114 o174 o173 o172 h7 ⊢
  subst h7
  have hul := T.len
  have key := loop_fun (P := Try.prog) (C := cfg) (sc := runScope Try.prog cfg 182 h.length (cfg.live 32) 0) (N := 182) (n0 := h.length) (K := cfg.live 32) (c := loopAt Try.f32 3)
    (fun s : Nat × Int => domS h f v9 bw up dp kids ⟨v35, v34, v6, v67, v66, v65, v8, v11, I (s.1 : Nat), I (ps.length : Nat), Sl (intsOf ps), I s.2, Sl (intsOf at_), v116, v115, v114, v174, v173, v172⟩) (fun s => s.1 ≤ ps.length ∧ BestOK f.blocks.length up s.2) (fun s => ps.length - s.1)
    (fun s => (.exit 6, domS h f v9 bw up dp kids ⟨v35, v34, v6, v67, v66, v65, v8, v11, I (ps.length : Nat), I (ps.length : Nat), Sl (intsOf ps), I ((ps.drop s.1).foldl (bestS up pl M) s.2), Sl (intsOf at_), v116, v115, v114, v174, v173, v172⟩)) ?_ (0, best) ⟨Nat.zero_le _, hb⟩
  · exact key
  clear hb best
  rintro ⟨j, best⟩ ⟨hj, hb⟩
  simp only at hj hb ⊢
  rcases Nat.lt_or_ge j ps.length with hlt | hge
  · have hltI : ((j : Nat) : Int) < ((ps.length : Nat) : Int) := by omega
    obtain ⟨p, hd⟩ : ∃ p, ps[j]? = some p := ⟨_, List.getElem?_eq_getElem hlt⟩
    have hdr : ps.drop j = p :: ps.drop (j + 1) := by
      rw [List.drop_eq_getElem_cons hlt]; rw [List.getElem?_eq_getElem hlt] at hd; cases hd; rfl
    have hp0 := hp p (List.mem_of_getElem? hd)
    obtain ⟨q, rfl⟩ : ∃ q : Nat, p = (q : Int) := ⟨p.toNat, by omega⟩
    have hqn : q < f.blocks.length := by omega
    obtain ⟨u, hu⟩ : ∃ u, up[q]? = some u := ⟨_, List.getElem?_eq_getElem (by omega)⟩
    have hlk : lk up q = u := by unfold lk; rw [List.getD, hu]; rfl
    by_cases hu0 : u < 0
    · refine .inl ⟨(j + 1, best), ?_, ⟨hlt, hb⟩, by first | omega | (simp only; omega), ?_⟩
      · simp (disch := (first | omega | simp (disch := omega) [])) [round_eq, domS, domT, domH, encFn, Try.f32, lvOf, hlt, hltI, hd, hu, hu0, hqn, hul, wrap_i64, -getElem?_pos, -tidy_eq]
        refine (tidy_dom' hkn ?_ hw9 ?_ ?_).trans ?_ <;> simp (disch := omega) [domK_p, domK_b, domK_s, domK_b2, domK_nil, domH, o35, o34, o6, o67, o66, o65, o8, o11, o116, o115, o114, o174, o173, o172]
      · rw [hdr, List.foldl_cons]
        have : bestS up pl M best (q : Int) = best := by unfold bestS; rw [Int.toNat_natCast, hlk, if_pos hu0]
        rw [this]
    · have hdq : Done up q := by unfold Done; rw [hlk]; omega
      by_cases hb0 : best < 0
      · refine .inl ⟨(j + 1, (q : Int)), ?_, ⟨hlt, .inr ⟨by omega, by rw [Int.toNat_natCast]; exact hqn, by rw [Int.toNat_natCast]; exact hdq⟩⟩, by first | omega | (simp only; omega), ?_⟩
        · simp (disch := (first | omega | simp (disch := omega) [])) [round_eq, domS, domT, domH, encFn, Try.f32, lvOf, hlt, hltI, hd, hu, hu0, hb0, hqn, hul, wrap_i64, -getElem?_pos, -tidy_eq]
          refine (tidy_dom' hkn ?_ hw9 ?_ ?_).trans ?_ <;> simp (disch := omega) [domK_p, domK_b, domK_s, domK_b2, domK_nil, domH, o35, o34, o6, o67, o66, o65, o8, o11, o116, o115, o114, o174, o173, o172]
        · rw [hdr, List.foldl_cons]
          have : bestS up pl M best (q : Int) = q := by unfold bestS; rw [Int.toNat_natCast, hlk, if_neg hu0, if_pos hb0]
          rw [this]
      · obtain ⟨hb1, hbn, hbd⟩ := hb.resolve_left hb0
        obtain ⟨b, rfl⟩ : ∃ b : Nat, best = (b : Int) := ⟨best.toNat, by omega⟩
        rw [Int.toNat_natCast] at hbn hbd
        have hm := hM b q hbn hqn hbd hdq
        obtain ⟨m1, m2, m3⟩ := meetN_ok T M b q hm hbn hqn hbd hdq
        have e := meet (h ++ domH h.length f.blocks.length (some (.row 5 [encFn f])) bw up dp kids) (h.length + 2) (h.length + 3) f.blocks.length up at_ (.sl (h.length + 4) 1 f.blocks.length 0 f.blocks.length) (.sl (h.length + 5) 1 f.blocks.length 0 f.blocks.length)
          (by simp [domH]) (by simp [domH, hul]) T hal hat M b q hm hbn hqn hbd hdq
        simp [domH, encFn] at e
        refine .inl ⟨(j + 1, (meetN up pl M b q : Nat)), ?_, ⟨hlt, .inr ⟨by omega, by rw [Int.toNat_natCast]; exact m1, by rw [Int.toNat_natCast]; exact m2⟩⟩, by first | omega | (simp only; omega), ?_⟩
        · simp (disch := (first | omega | simp (disch := omega) [])) [round_eq, domS, domT, domH, encFn, Try.f32, lvOf, hlt, hltI, hd, hu, hu0, hb0, hqn, hul, e, wrap_i64, -getElem?_pos, -tidy_eq]
          refine (tidy_dom' hkn ?_ hw9 ?_ ?_).trans ?_ <;> simp (disch := omega) [domK_p, domK_b, domK_s, domK_b2, domK_nil, domH, o35, o34, o6, o67, o66, o65, o8, o11, o116, o115, o114, o174, o173, o172]
        · rw [hdr, List.foldl_cons]
          have : bestS up pl M (b : Int) (q : Int) = (meetN up pl M b q : Nat) := by unfold bestS; rw [Int.toNat_natCast, hlk, if_neg hu0, if_neg hb0, Int.toNat_natCast]
          rw [this]
  · have : j = ps.length := by omega
    subst this
    refine .inr ⟨?_, nofun⟩
    simp (disch := (first | omega | simp (disch := omega) [])) [round_eq, domS, domT, domH, encFn, Try.f32, lvOf, -getElem?_pos, -tidy_eq]
    refine (tidy_dom' hkn ?_ hw9 ?_ ?_).trans ?_ <;> simp (disch := omega) [domK_p, domK_b, domK_s, domK_b2, domK_nil, domH, o35, o34, o6, o67, o66, o65, o8, o11, o116, o115, o114, o174, o173, o172]
end Go.Proofs.Ytdkknhpdjcdmfaa.Abs

/- A round of telling links: what it keeps, and that it ends. -/
set_option linter.unusedSimpArgs false
set_option linter.unusedVariables false
namespace Go.Proofs.Ytdkknhpdjcdmfaa.Abs

section
variable {n : Nat} {pl : Nat → Nat} {up : List Int} {M : Nat} (T : Tr n pl up) (hM : ∀ a b, a < n → b < n → Done up a → Done up b → pl a + pl b < M)
include T hM
theorem best_fold : ∀ (ps : List Int) (best : Int), (∀ p, p ∈ ps → 0 ≤ p ∧ p < n) → BestOK n up best →
    BestOK n up (ps.foldl (bestS up pl M) best) ∧ (ps.foldl (bestS up pl M) best < 0 ↔ best < 0 ∧ ∀ p, p ∈ ps → ¬ Done up p.toNat) ∧
    (0 ≤ ps.foldl (bestS up pl M) best → ∀ x, Anc up x (ps.foldl (bestS up pl M) best).toNat ↔ (0 ≤ best → Anc up x best.toNat) ∧ ∀ p, p ∈ ps → Done up p.toNat → Anc up x p.toNat)
  | [], best, _, hb => ⟨hb, by simp, fun h0 x => by
      show Anc up x best.toNat ↔ _
      exact ⟨fun h => ⟨fun _ => h, by simp⟩, fun h => h.1 h0⟩⟩
  | p :: ps, best, hp, hb => by
    have hp0 := hp p (by simp)
    have step : BestOK n up (bestS up pl M best p) ∧ (bestS up pl M best p < 0 ↔ best < 0 ∧ ¬ Done up p.toNat) ∧ (0 ≤ bestS up pl M best p → ∀ x, Anc up x (bestS up pl M best p).toNat ↔ (0 ≤ best → Anc up x best.toNat) ∧ (Done up p.toNat → Anc up x p.toNat)) := by
      unfold bestS
      by_cases h1 : lk up p.toNat < 0
      · have hnd : ¬ Done up p.toNat := fun h => by unfold Done at h; omega
        rw [if_pos h1]
        exact ⟨hb, ⟨fun h => ⟨h, hnd⟩, fun h => h.1⟩, fun h0 x => ⟨fun h => ⟨fun _ => h, fun h' => absurd h' hnd⟩, fun h => h.1 h0⟩⟩
      · have hd : Done up p.toNat := by unfold Done; omega
        have hpn : p.toNat < n := by omega
        rw [if_neg h1]
        by_cases h2 : best < 0
        · rw [if_pos h2]
          exact ⟨.inr ⟨hp0.1, hpn, hd⟩, ⟨fun h => by omega, fun h => absurd hd h.2⟩, fun _ x => ⟨fun h => ⟨fun h' => by omega, fun _ => h⟩, fun h => h.2 hd⟩⟩
        · rw [if_neg h2]
          obtain ⟨b0, bn, bd⟩ := hb.resolve_left h2
          obtain ⟨m1, m2, m3⟩ := meetN_ok T M best.toNat p.toNat (hM _ _ bn hpn bd hd) bn hpn bd hd
          refine ⟨.inr ⟨by omega, by rw [Int.toNat_natCast]; exact m1, by rw [Int.toNat_natCast]; exact m2⟩, ⟨fun h => by omega, fun h => absurd hd h.2⟩, fun _ x => ?_⟩
          rw [Int.toNat_natCast, m3]
          exact ⟨fun h => ⟨fun _ => h.1, fun _ => h.2⟩, fun h => ⟨h.1 b0, h.2 hd⟩⟩
    obtain ⟨s1, s2, s3⟩ := step
    obtain ⟨r1, r2, r3⟩ := best_fold ps (bestS up pl M best p) (fun q hq => hp q (by simp [hq])) s1
    rw [List.foldl_cons]
    refine ⟨r1, ?_, fun h0 x => ?_⟩
    · rw [r2, s2]
      constructor
      · rintro ⟨⟨h1, h2⟩, h3⟩
        refine ⟨h1, fun q hq => ?_⟩
        rcases List.mem_cons.1 hq with rfl | hq
        · exact h2
        · exact h3 q hq
      · rintro ⟨h1, h2⟩
        exact ⟨⟨h1, h2 p (by simp)⟩, fun q hq => h2 q (by simp [hq])⟩
    · rw [r3 h0]
      constructor
      · rintro ⟨h1, h2⟩
        by_cases hs : 0 ≤ bestS up pl M best p
        · have h3 := (s3 hs x).1 (h1 hs)
          refine ⟨h3.1, fun q hq => ?_⟩
          rcases List.mem_cons.1 hq with rfl | hq
          · exact h3.2
          · exact h2 q hq
        · have h3 := s2.1 (by omega)
          refine ⟨fun h => by omega, fun q hq => ?_⟩
          rcases List.mem_cons.1 hq with rfl | hq
          · exact fun h => absurd h h3.2
          · exact h2 q hq
      · rintro ⟨h1, h2⟩
        exact ⟨fun hs => (s3 hs x).2 ⟨h1, h2 p (by simp)⟩, fun q hq => h2 q (by simp [hq])⟩
end

def prOf (prs : List (List Int)) (p k : Nat) : Prop := (p : Int) ∈ prs.getD k []
def bestF (up : List Int) (pl : Nat → Nat) (M : Nat) (ps : List Int) : Int := ps.foldl (bestS up pl M) (-1)
def passG (pl : Nat → Nat) (M : Nat) (prs : List (List Int)) : List Int → List Int → List Int
  | [], up => up
  | k :: ks, up => passG pl M prs ks (up.set k.toNat (bestF up pl M (prs.getD k.toNat [])))

structure DomIn (n : Nat) (R : Nat → Prop) (pl : Nat → Nat) (ord : List Int) (prs : List (List Int)) : Prop where
  F : Flow n R pl (prOf prs)
  len : prs.length = n
  low : ∀ l, l ∈ prs → ∀ p, p ∈ l → 0 ≤ p ∧ p < n
  at_ : ∀ (i : Nat) k, ord[i]? = some k → 0 ≤ k ∧ R k.toNat ∧ pl k.toNat = i
  all : ∀ v, R v → pl v < ord.length
  max : ord.length ≤ n

theorem best_is {n : Nat} {R : Nat → Prop} {pl : Nat → Nat} {ord : List Int} {prs : List (List Int)} (D : DomIn n R pl ord prs) {up : List Int} {k M : Nat} (I : PInv n R pl (prOf prs) (pl k) up) (hM : 2 * n ≤ M) (hR : R k) (hk0 : k ≠ 0) :
    ∃ b : Nat, bestF up pl M (prs.getD k []) = (b : Int) ∧ IsBest n (prOf prs) up k b := by
  have hMM : ∀ a b, a < n → b < n → Done up a → Done up b → pl a + pl b < M := fun a b ha hb da db => by
    have h1 := D.all a (I.r a ha da)
    have h2 := D.all b (I.r b hb db)
    have := D.max
    omega
  have hlow : ∀ p, p ∈ prs.getD k [] → 0 ≤ p ∧ p < n := by
    intro p hp
    rw [List.getD] at hp
    cases he : prs[k]? with
    | none => rw [he] at hp; simp at hp
    | some l => rw [he] at hp; exact D.low l (List.mem_of_getElem? he) p hp
  obtain ⟨r1, r2, r3⟩ := best_fold I.T hMM (prs.getD k []) (-1) hlow (.inl (by omega))
  obtain ⟨p0, q1, q2, q3⟩ := D.F.ahead k hR hk0
  have dp0 := I.d p0 q2 q3
  have h0 : ¬ (prs.getD k []).foldl (bestS up pl M) (-1) < 0 := fun h => (r2.1 h).2 (p0 : Int) q1 (by rw [Int.toNat_natCast]; exact dp0)
  obtain ⟨b0, bn, bd⟩ := r1.resolve_left h0
  refine ⟨((prs.getD k []).foldl (bestS up pl M) (-1)).toNat, by unfold bestF; omega, bn, bd, fun x => ?_⟩
  rw [r3 b0 x]
  constructor
  · rintro ⟨_, h⟩ p hp dp
    have := h (p : Int) hp (by rw [Int.toNat_natCast]; exact dp)
    rwa [Int.toNat_natCast] at this
  · intro h
    refine ⟨fun h' => by omega, fun p hp dp => h p.toNat ?_ dp⟩
    have := (hlow p hp).1
    show ((p.toNat : Nat) : Int) ∈ _
    rw [Int.toNat_of_nonneg this]
    exact hp

/-! How much may be told yet. -/
def muL (f : Nat → Nat) : Nat → Nat
  | 0 => 0
  | n + 1 => muL f n + f n
theorem muL_le {f g : Nat → Nat} : ∀ (n : Nat), (∀ v, v < n → f v ≤ g v) → muL f n ≤ muL g n
  | 0, _ => Nat.le_refl _
  | n + 1, h => by
    have h1 := muL_le n fun v hv => h v (by omega)
    have h2 := h n (by omega)
    show muL f n + f n ≤ muL g n + g n
    omega
theorem muL_eq {f g : Nat → Nat} : ∀ (n : Nat), (∀ v, v < n → f v ≤ g v) → muL f n = muL g n → ∀ v, v < n → f v = g v
  | 0, _, _, v, hv => by omega
  | n + 1, h, e, v, hv => by
    have h1 := muL_le n fun v hv => h v (by omega)
    have h2 := h n (by omega)
    have e' : muL f n + f n = muL g n + g n := e
    by_cases hvn : v = n
    · subst hvn; omega
    · exact muL_eq n (fun v hv => h v (by omega)) (by omega) v (by omega)
def mu (n : Nat) (pl : Nat → Nat) (up : List Int) : Nat := muL (fun v => if 0 ≤ lk up v then pl (nx up v) else n) n

theorem pass_law {n : Nat} {R : Nat → Prop} {pl : Nat → Nat} {ord : List Int} {prs : List (List Int)} (D : DomIn n R pl ord prs) {M : Nat} (hM : 2 * n ≤ M) : ∀ (ks : List Int) (i : Nat) (up : List Int), ord.drop i = ks → 0 < i → i ≤ ord.length → PInv n R pl (prOf prs) i up →
    PInv n R pl (prOf prs) ord.length (passG pl M prs ks up) ∧ mu n pl (passG pl M prs ks up) ≤ mu n pl up ∧ (mu n pl (passG pl M prs ks up) = mu n pl up → passG pl M prs ks up = up ∧ ∀ k, k ∈ ks → Done up k.toNat ∧ IsBest n (prOf prs) up k.toNat (nx up k.toNat))
  | [], i, up, hd, h0, hi, I => by
    have : ord.length ≤ i := List.drop_eq_nil_iff.1 hd
    have : i = ord.length := by omega
    subst this
    exact ⟨I, Nat.le_refl _, fun _ => ⟨rfl, by simp⟩⟩
  | k :: ks, i, up, hd, h0, hi, I => by
    have hlt : i < ord.length := by
      have := congrArg List.length hd
      simp at this
      omega
    have hk : ord[i]? = some k := by
      rw [List.drop_eq_getElem_cons hlt] at hd
      rw [List.getElem?_eq_getElem hlt]
      injection hd with h1 _
      rw [h1]
    have hd' : ord.drop (i + 1) = ks := by
      rw [List.drop_eq_getElem_cons hlt] at hd
      injection hd
    obtain ⟨k0, kR, kp⟩ := D.at_ i k hk
    have hkz : k.toNat ≠ 0 := fun e => by rw [e, D.F.pl0] at kp; omega
    have hkn := D.F.low _ kR
    have I' : PInv n R pl (prOf prs) (pl k.toNat) up := by rw [kp]; exact I
    obtain ⟨b, hb, hB⟩ := best_is D I' hM kR hkz
    obtain ⟨s1, s2, s3⟩ := PInv.step D.F I' kR hkz hB
    rw [kp] at s2
    obtain ⟨p1, p2, p3⟩ := pass_law D hM ks (i + 1) (up.set k.toNat (b : Int)) hd' (by omega) (by omega) s2
    have hpg : passG pl M prs (k :: ks) up = passG pl M prs ks (up.set k.toNat (b : Int)) := by rw [passG, hb]
    rw [hpg]
    have hT := I.T
    have hle : ∀ v, v < n → (fun v => if 0 ≤ lk (up.set k.toNat (b : Int)) v then pl (nx (up.set k.toNat (b : Int)) v) else n) v ≤ (fun v => if 0 ≤ lk up v then pl (nx up v) else n) v := by
      intro v hv
      simp only
      rw [lk_set hT hkn, nx_set hT hkn]
      by_cases e : v = k.toNat
      · subst e
        rw [if_pos rfl, if_pos rfl, if_pos (by omega)]
        split
        · rename_i hd
          obtain ⟨g1, g2, g3⟩ := hT.link _ hkn hd hkz
          exact (hT.anc (s3 hd) g1 g2).2.2
        · have := D.all _ kR
          have := D.max
          omega
      · rw [if_neg e, if_neg e]
        exact Nat.le_refl _
    have hmu : mu n pl (up.set k.toNat (b : Int)) ≤ mu n pl up := muL_le n hle
    refine ⟨p1, Nat.le_trans p2 hmu, fun e => ?_⟩
    have e1 : mu n pl (up.set k.toNat (b : Int)) = mu n pl up := by omega
    have e2 := muL_eq n hle e1 k.toNat hkn
    rw [lk_set hT hkn, nx_set hT hkn, if_pos rfl, if_pos rfl, if_pos (by omega)] at e2
    have hdk : Done up k.toNat := by
      by_cases h : 0 ≤ lk up k.toNat
      · exact h
      · rw [if_neg h] at e2
        have := D.all _ kR
        have := D.max
        omega
    rw [if_pos (show 0 ≤ lk up k.toNat from hdk)] at e2
    obtain ⟨g1, g2, g3⟩ := hT.link _ hkn hdk hkz
    have hbk : b = nx up k.toNat := hT.anc_eq (s3 hdk) g1 g2 (by omega)
    have hset : up.set k.toNat (b : Int) = up := by
      apply List.ext_getElem?
      intro j
      rw [List.getElem?_set]
      split
      · rename_i e; subst e
        have hl := hT.len
        rw [if_pos (by omega)]
        have h1 : up[k.toNat]? = some (lk up k.toNat) := by unfold lk; rw [List.getD, List.getElem?_eq_getElem (by omega)]; rfl
        rw [h1, hbk]
        unfold nx
        rw [Int.toNat_of_nonneg hdk]
      · rfl
    rw [hset] at p3 e ⊢
    obtain ⟨p4, p5⟩ := p3 e
    refine ⟨p4, fun q hq => ?_⟩
    rcases List.mem_cons.1 hq with rfl | hq
    · exact ⟨hdk, hbk ▸ hB⟩
    · exact p5 q hq

section
variable {n : Nat} {R : Nat → Prop} {pl : Nat → Nat} {ord : List Int} {prs : List (List Int)} (D : DomIn n R pl ord prs)
include D
theorem pinv_first : PInv n R pl (prOf prs) 1 ((List.replicate n (-1 : Int)).set 0 0) := by
  have hp := D.F.pos
  have hlk : ∀ v, lk ((List.replicate n (-1 : Int)).set 0 0) v = if v = 0 then 0 else -1 := by
    intro v
    unfold lk
    rw [List.getD, List.getElem?_set]
    by_cases e : v = 0
    · subst e
      rw [if_pos rfl, if_pos rfl, if_pos (by simpa using hp)]
      rfl
    · rw [if_neg (fun h => e h.symm), if_neg e, List.getElem?_replicate]
      split <;> rfl
  have hd : ∀ v, Done ((List.replicate n (-1 : Int)).set 0 0) v → v = 0 := by
    intro v h
    unfold Done at h
    rw [hlk] at h
    by_cases e : v = 0
    · exact e
    · rw [if_neg e] at h; omega
  have hd0 : Done ((List.replicate n (-1 : Int)).set 0 0) 0 := by unfold Done; rw [hlk, if_pos rfl]; omega
  refine ⟨⟨by simp, hp, hd0, D.F.pl0, fun v _ h h0 => absurd (hd v h) h0, fun v w _ _ dv dw _ => by rw [hd v dv, hd w dw]⟩, ?_, ?_, ?_, ?_, ?_, ?_, ?_, fun v hv => ?_⟩
  rotate_right
  · rw [hlk, if_neg fun e => hv (by rw [e]; exact hd0)]
  · intro j _ h h0; exact absurd (hd j h) h0
  · intro j _ h h0; exact absurd (hd j h) h0
  · intro j _ h h0; exact absurd (hd j h) h0
  · intro j hR hj
    have : j = 0 := D.F.inj j 0 hR D.F.zero (by rw [D.F.pl0]; omega)
    subst this; exact hd0
  · intro j _ h; rw [hd j h]; exact D.F.zero
  · right
    intro v _ h
    rw [hd v h, D.F.pl0]; omega
  · intro v _ h a hw
    rw [hd v h] at hw ⊢
    by_cases e : 0 = a
    · rw [e]; exact .refl a
    · exact absurd (Wy.zero e) hw
theorem pinv_next {up : List Int} (I : PInv n R pl (prOf prs) ord.length up) : PInv n R pl (prOf prs) 1 up := by
  have hall : ∀ v, R v → Done up v := fun v hv => I.d v hv (D.all v hv)
  refine ⟨I.T, ?_, ?_, I.m, fun j hR _ => hall j hR, I.r, .inl hall, I.f, I.no⟩
  · intro j hj dj h0 hl
    have : j = 0 := D.F.inj j 0 (I.r j hj dj) D.F.zero (by rw [D.F.pl0]; omega)
    exact absurd this h0
  · intro j hj dj h0 _ p hp hpl dp x hx _
    exact I.a j hj dj h0 (D.all j (I.r j hj dj)) p hp hpl dp x hx

structure Doms (n : Nat) (R : Nat → Prop) (pl : Nat → Nat) (prs : List (List Int)) (up : List Int) : Prop where
  T : Tr n pl up
  done : ∀ v, v < n → (Done up v ↔ R v)
  low : ∀ v, R v → v < n
  law : ∀ k p x, R k → k ≠ 0 → prOf prs p k → R p → Anc up x (nx up k) → Anc up x p
  full : ∀ v, R v → ∀ a, ¬ Wy (prOf prs) a v → Anc up a v
  no : ∀ v, ¬ Done up v → lk up v = -1
theorem doms_of {up : List Int} (I : PInv n R pl (prOf prs) ord.length up) (hB : ∀ k, k ∈ ord.drop 1 → Done up k.toNat ∧ IsBest n (prOf prs) up k.toNat (nx up k.toNat)) : Doms n R pl prs up := by
  have hall : ∀ v, R v → Done up v := fun v hv => I.d v hv (D.all v hv)
  refine ⟨I.T, fun v hv => ⟨I.r v hv, hall v⟩, D.F.low, fun k p x hk hk0 hp hRp hx => ?_, fun v hv a hw => I.f v (D.F.low v hv) (hall v hv) a hw, I.no⟩
  have h1 := D.all k hk
  obtain ⟨y, hy⟩ : ∃ y, ord[pl k]? = some y := ⟨_, List.getElem?_eq_getElem h1⟩
  obtain ⟨y0, yR, yp⟩ := D.at_ _ _ hy
  have hyk : y.toNat = k := D.F.inj _ _ yR hk yp
  have hpk : pl k ≠ 0 := fun e => hk0 (D.F.inj _ _ hk D.F.zero (by rw [e, D.F.pl0]))
  have hm : y ∈ ord.drop 1 := by
    refine List.mem_of_getElem? (i := pl k - 1) ?_
    rw [List.getElem?_drop, show 1 + (pl k - 1) = pl k by omega]
    exact hy
  obtain ⟨_, hb⟩ := hB y hm
  rw [hyk] at hb
  exact (hb.2.2 x).1 hx p hp (hall p hRp)
end
end Go.Proofs.Ytdkknhpdjcdmfaa.Abs

/- dom.Of: a round of telling links. -/
set_option linter.unusedSimpArgs false
set_option linter.unusedVariables false
namespace Go.Proofs.Ytdkknhpdjcdmfaa.Abs
open Go Go.RowKit Go.Proofs

structure DT.Fix (d : DT) (v6 v7 v8 : V) : Prop where
  ok : d.Ok
  e6 : d.v6 = v6
  e7 : d.v7 = v7
  e8 : d.v8 = v8

theorem of_pass (h : Heap) (f : Fn) (v9 : V) (bw : Option AO) (hw9 : WasOK h.length f.blocks.length v9 bw) (dp : List Int) (kids : List (List Int)) (hkn : kids.length = f.blocks.length) (hn : f.blocks.length ≤ 1000) {R : Nat → Prop} {pl : Nat → Nat} {ord : List Int} {prs : List (List Int)}
    (D : DomIn f.blocks.length R pl ord prs) (hpl : ∀ l, l ∈ prs → l.length ≤ 100000) (at_ : List Int) (hal : at_.length = f.blocks.length) (hat : ∀ v, R v → at_[v]? = some (pl v : Int)) (v6 : V)
    (up : List Int) (I0 : PInv f.blocks.length R pl (prOf prs) 1 up) (d : DT) (hd : d.Fix v6 (Sl (intsOf at_)) (Sl (listsOf prs))) :
    ∃ d', lpK 32 Try.f32 182 2 h (domS h f v9 bw up dp kids { d with v67 := I (0 : Nat), v66 := I ((ord.drop 1).length : Nat), v65 := Sl (intsOf (ord.drop 1)) }) =
      some (.exit 4, domS h f v9 bw (passG pl (2 * f.blocks.length) prs (ord.drop 1) up) dp kids d') ∧ d'.Fix v6 (Sl (intsOf at_)) (Sl (listsOf prs)) := by
  have key := loop_rel (P := Try.prog) (C := cfg) (sc := runScope Try.prog cfg 182 h.length (cfg.live 32) 0) (N := 182) (n0 := h.length) (K := cfg.live 32) (c := loopAt Try.f32 2)
    (fun s : Nat × List Int × DT => domS h f v9 bw s.2.1 dp kids { s.2.2 with v67 := I (s.1 : Nat), v66 := I ((ord.drop 1).length : Nat), v65 := Sl (intsOf (ord.drop 1)) })
    (fun s => s.1 ≤ (ord.drop 1).length ∧ PInv f.blocks.length R pl (prOf prs) (s.1 + 1) s.2.1 ∧ s.2.2.Fix v6 (Sl (intsOf at_)) (Sl (listsOf prs))) (fun s => (ord.drop 1).length - s.1)
    (fun s r => ∃ d', r = (.exit 4, domS h f v9 bw (passG pl (2 * f.blocks.length) prs ((ord.drop 1).drop s.1) s.2.1) dp kids d') ∧ d'.Fix v6 (Sl (intsOf at_)) (Sl (listsOf prs))) ?_ (0, up, d) ⟨Nat.zero_le _, I0, hd⟩
  · obtain ⟨r, h1, d', rfl, h2⟩ := key
    exact ⟨d', h1, h2⟩
  clear hd d I0 up
  rintro ⟨i, up, d⟩ ⟨hi, J, hd⟩
  simp only at hi J hd ⊢
  obtain ⟨v35, v34, v6', v67, v66, v65, v8, v11, v76, v75, v74, v12, v7, v116, v115, v114, v174, v173, v172⟩ := d
  obtain ⟨⟨o35, o34, o6, o67, o66, o65, o8, o11, o76, o75, o74, o12, o7, o116, o115, o114, o174, o173, o172⟩, e6, e7, e8⟩ := hd
  simp only at o35 o34 o6 o67 o66 o65 o8 o11 o76 o75 o74 o12 o7 o116 o115 o114 o174 o173 o172 e6 e7 e8 ⊢
  subst e6 e7 e8
  generalize htl : ord.drop 1 = tail at hi ⊢
  have hmax : tail.length ≤ 1000 := by rw [← htl]; have := D.max; simp; omega
  rcases Nat.lt_or_ge i tail.length with hlt | hge
  · have hltI : ((i : Nat) : Int) < ((tail.length : Nat) : Int) := by omega
    obtain ⟨k, hk⟩ : ∃ k, tail[i]? = some k := ⟨_, List.getElem?_eq_getElem hlt⟩
    have hdr : tail.drop i = k :: tail.drop (i + 1) := by
      rw [List.drop_eq_getElem_cons hlt]; rw [List.getElem?_eq_getElem hlt] at hk; cases hk; rfl
    have hko : ord[i + 1]? = some k := by rw [← htl, List.getElem?_drop, Nat.add_comm] at hk; exact hk
    obtain ⟨k0, kR, kp⟩ := D.at_ _ _ hko
    obtain ⟨q, rfl⟩ : ∃ q : Nat, k = (q : Int) := ⟨k.toNat, by omega⟩
    rw [Int.toNat_natCast] at kR kp
    have hqz : q ≠ 0 := fun e => by rw [e, D.F.pl0] at kp; omega
    have hqn := D.F.low _ kR
    have hI : PInv f.blocks.length R pl (prOf prs) (pl q) up := by rw [kp]; exact J
    obtain ⟨b, hb, hB⟩ := best_is D hI (Nat.le_refl _) kR hqz
    obtain ⟨s1, s2, s3⟩ := PInv.step D.F hI kR hqz hB
    rw [kp] at s2
    have hpn : q < prs.length := by rw [D.len]; exact hqn
    obtain ⟨ps, hps⟩ : ∃ ps, prs[q]? = some ps := ⟨_, List.getElem?_eq_getElem hpn⟩
    have hgd : prs.getD q [] = ps := by rw [List.getD, hps]; rfl
    have hpm := List.mem_of_getElem? hps
    have hul := J.T.len
    obtain ⟨u, hu⟩ : ∃ u, up[q]? = some u := ⟨_, List.getElem?_eq_getElem (by omega)⟩
    have e := of_best h f v9 bw hw9 up dp kids hkn hn J.T at_ hal (fun v hv dv => hat v (J.r v hv dv)) (2 * f.blocks.length) (fun a b ha hb da db => by
        have h1 := D.all a (J.r a ha da)
        have h2 := D.all b (J.r b hb db)
        have := D.max
        omega) ps (hpl ps hpm) (D.low ps hpm) ⟨v35, v34, v6', I (i : Nat), I (tail.length : Nat), Sl (intsOf tail), Sl (listsOf prs), I (q : Nat), v76, v75, v74, I (-1), Sl (intsOf at_), v116, v115, v114, v174, v173, v172⟩
        ⟨o35, o34, o6, rfl, rfl, rfl, rfl, rfl, o76, o75, o74, rfl, rfl, o116, o115, o114, o174, o173, o172⟩ rfl (-1) (.inl (by omega))
    have hb2 : ps.foldl (bestS up pl (2 * f.blocks.length)) (-1) = (b : Int) := by rw [← hgd]; exact hb
    rw [hb2] at e
    refine .inl ⟨(i + 1, up.set q (b : Int), ⟨v35, v34, v6', I (i : Nat), I (tail.length : Nat), Sl (intsOf tail), Sl (listsOf prs), I (q : Nat), I (ps.length : Nat), I (ps.length : Nat), Sl (intsOf ps), I (b : Nat), Sl (intsOf at_), v116, v115, v114, v174, v173, v172⟩), ?_,
      ⟨hlt, s2, ⟨⟨o35, o34, o6, rfl, rfl, rfl, rfl, rfl, rfl, rfl, rfl, rfl, rfl, o116, o115, o114, o174, o173, o172⟩, rfl, rfl, rfl⟩⟩, by first | omega | (simp only; omega), ?_⟩
    · simp [domS, domT, lpK, lvOf, Try.f32] at e
      simp (disch := (first | omega | simp (disch := omega) [])) [round_eq, domS, domT, Try.f32, lvOf, hlt, hltI, hk, hpn, hps, wrap_i64, -getElem?_pos, -tidy_eq]
      rw [tidy_dom' hkn (encFn_pl f) hw9 ?_ ?_]
      rotate_left
      · simp (disch := omega) [domK_p, domK_b, domK_s, domK_b2, domK_nil, o35, o34, o6, o67, o66, o65, o8, o11, o76, o75, o74, o116, o115, o114, o174, o173, o172]
      · simp
      simp (disch := (first | omega | simp (disch := omega) [])) [e, wrap_i64, -getElem?_pos, -tidy_eq]
      simp (disch := (first | omega | simp (disch := omega) [])) [domH, encFn, hqn, hul, hu, intsOf_set, wrap_i64, -getElem?_pos, -tidy_eq]
      refine (tidy_dom' hkn ?_ hw9 ?_ ?_).trans ?_ <;> simp (disch := omega) [domK_p, domK_b, domK_s, domK_b2, domK_nil, domH, o35, o34, o6, o67, o66, o65, o8, o11, o116, o115, o114, o174, o173, o172]
    · rintro r ⟨d', hr, hd'⟩
      refine ⟨d', ?_, hd'⟩
      rw [hr, hdr, passG, Int.toNat_natCast, hb]
  · have : i = tail.length := by omega
    subst this
    refine .inr ⟨_, ?_, ?_, ⟨v35, v34, v6', I (tail.length : Nat), I (tail.length : Nat), Sl (intsOf tail), Sl (listsOf prs), v11, v76, v75, v74, v12, Sl (intsOf at_), v116, v115, v114, v174, v173, v172⟩, rfl, ⟨⟨o35, o34, o6, rfl, rfl, rfl, rfl, o11, o76, o75, o74, o12, rfl, o116, o115, o114, o174, o173, o172⟩, rfl, rfl, rfl⟩⟩
    · simp (disch := (first | omega | simp (disch := omega) [])) [round_eq, domS, domT, Try.f32, lvOf, passG, -getElem?_pos, -tidy_eq]
      refine (tidy_dom' hkn ?_ hw9 ?_ ?_).trans ?_ <;> simp (disch := omega) [domK_p, domK_b, domK_s, domK_b2, domK_nil, encFn_pl, o35, o34, o6, o67, o66, o65, o8, o11, o76, o75, o74, o12, o116, o115, o114, o174, o173, o172]
    · nofun
end Go.Proofs.Ytdkknhpdjcdmfaa.Abs

/- dom.Of: rounds, until nothing is told anew. -/
set_option linter.unusedSimpArgs false
set_option linter.unusedVariables false
namespace Go.Proofs.Ytdkknhpdjcdmfaa.Abs
open Go Go.RowKit Go.Proofs

attribute [simp] op_copy cop41 copK
theorem op_slice {P : Program} {cf : CF} {slot : Option Nat} {T : Tmps} {h : Heap} {dst : Option Nat} {ty : TypeId} {pos : String} {after : Array Edge} {guard : Option (Nat × Bool)} (t : TypeId) (x : Operand) (lo hi mx : Option Operand) :
    absOp P cf slot T h ⟨dst, .slice t x lo hi mx, ty, pos, after, guard⟩ = pureR h (sliceV P t (ev T x) (lo.map (ev T)) (hi.map (ev T)) (mx.map (ev T))) := rfl
theorem slice_tail (xs : List Int) (h : 0 < xs.length) : sliceV Try.prog 30 (.one (.isl (intsOf xs))) (some (I 1)) none none = some (.one (.isl (intsOf (xs.drop 1)))) := by
  have hu : Try.prog.underlying 30 = some (.slice 3) := by kernel_rfl
  have hs : tsize Try.prog 3 = some 1 := by kernel_rfl
  have ho : elemOK Try.prog 3 (intsOf xs) = true := by
    cases xs with
    | nil => simp at h
    | cons x xs => simp [elemOK, hs, intsOf]
  unfold sliceV
  rw [hu]
  have hb : boundsV xs.length (some (I 1)) none none = some (1, xs.length, none) := by
    simp [boundsV, optNat, natOf, show 1 ≤ xs.length by omega]
  simp only [intsOf_length, hb, Option.bind_some, ho]
  simp [intsOf, List.map_drop, List.take_of_length_le]
attribute [simp] op_slice
theorem tidy_domU {h : Heap} {T : Tmps} {ws : List Nat} {n : Nat} {cf : List Leaf} {v9 : V} {bw : Option AO} {up dp : List Int} {kids : List (List Int)} (hkn : kids.length = n) (hcf : cf.all plL = true) (hw9 : WasOK h.length n v9 bw)
    (hK : DomK T (.one (.ptr h.length 1 0 0)) v9 (.one (.ptr (h.length + 2) 1 0 0)) (.one (.sl (h.length + 5) 1 n 0 n)) K61) (hw : wsOf h.length ws = []) :
    tidy h.length K61 ⟨T, h ++ (some (.row 5 [cf]) :: bw :: some (.row 3 [[.sl (h.length + 3) 1 n 0 n, .sl (h.length + 4) 1 n 0 n, .sl (h.length + 5) 1 n 0 n]]) :: some (.row 1 (intsOf up)) :: some (.row 1 (intsOf dp)) :: some (.row 1 (outR h.length 6 kids)) :: fam kids), ws⟩ =
      ⟨K61.map fun e => (e.1, tget T e.1), h ++ domH h.length n (some (.row 5 [cf])) bw up dp kids, []⟩ := tidy_dom' hkn hcf hw9 hK hw

def wasS (h : Heap) (f : Fn) (was up dp : List Int) (kids : List (List Int)) (d : DT) : St :=
  domS h f (.one (.sl (h.length + 1) 1 f.blocks.length 0 f.blocks.length)) (some (.row 1 (intsOf was))) up dp kids d

theorem of_rounds (h : Heap) (f : Fn) (dp : List Int) (kids : List (List Int)) (hkn : kids.length = f.blocks.length) (hn : f.blocks.length ≤ 1000) {R : Nat → Prop} {pl : Nat → Nat} {ord : List Int} {prs : List (List Int)}
    (D : DomIn f.blocks.length R pl ord prs) (hpl : ∀ l, l ∈ prs → l.length ≤ 100000) (hol : 0 < ord.length) (at_ : List Int) (hal : at_.length = f.blocks.length) (hat : ∀ v, R v → at_[v]? = some (pl v : Int))
    (was up : List Int) (hwl : was.length = f.blocks.length) (I0 : PInv f.blocks.length R pl (prOf prs) 1 up) (d : DT) (hd : d.Fix (Sl (intsOf ord)) (Sl (intsOf at_)) (Sl (listsOf prs))) :
    ∃ up' d', lpK 32 Try.f32 182 1 h (wasS h f was up dp kids d) =
      some (.exit 2, wasS h f up' up' dp kids d') ∧ Doms f.blocks.length R pl prs up' ∧ d'.Fix (Sl (intsOf ord)) (Sl (intsOf at_)) (Sl (listsOf prs)) := by
  have key := loop_rel (P := Try.prog) (C := cfg) (sc := runScope Try.prog cfg 182 h.length (cfg.live 32) 0) (N := 182) (n0 := h.length) (K := cfg.live 32) (c := loopAt Try.f32 1)
    (fun s : List Int × List Int × DT => wasS h f s.1 s.2.1 dp kids s.2.2)
    (fun s => s.1.length = f.blocks.length ∧ PInv f.blocks.length R pl (prOf prs) 1 s.2.1 ∧ s.2.2.Fix (Sl (intsOf ord)) (Sl (intsOf at_)) (Sl (listsOf prs))) (fun s => mu f.blocks.length pl s.2.1)
    (fun s r => ∃ up' d', r = (.exit 2, wasS h f up' up' dp kids d') ∧ Doms f.blocks.length R pl prs up' ∧ d'.Fix (Sl (intsOf ord)) (Sl (intsOf at_)) (Sl (listsOf prs))) ?_ (was, up, d) ⟨hwl, I0, hd⟩
  · obtain ⟨r, h1, up', d', rfl, h2⟩ := key
    exact ⟨up', d', h1, h2⟩
  clear hd d I0 up hwl was
  rintro ⟨was, up, d⟩ ⟨hwl, J, hd⟩
  simp only at hwl J hd ⊢
  have hul := J.T.len
  have hnp := D.F.pos
  have hmax := D.max
  obtain ⟨p1, p2, p3⟩ := pass_law D (Nat.le_refl (2 * f.blocks.length)) (ord.drop 1) 1 up rfl (by omega) (by omega) J
  have hul' := p1.T.len
  have hf : Fit up := by show up.length ≤ _; omega
  have eq := equal [] up (passG pl (2 * f.blocks.length) prs (ord.drop 1) up) hf
  have hw9 : WasOK h.length f.blocks.length (.one (.sl (h.length + 1) 1 f.blocks.length 0 f.blocks.length)) (some (.row 1 (intsOf up))) := .inr ⟨rfl, _, rfl⟩
  obtain ⟨v35, v34, v6', v67, v66, v65, v8, v11, v76, v75, v74, v12, v7, v116, v115, v114, v174, v173, v172⟩ := d
  obtain ⟨⟨o35, o34, o6, o67, o66, o65, o8, o11, o76, o75, o74, o12, o7, o116, o115, o114, o174, o173, o172⟩, e6, e7, e8⟩ := hd
  simp only at o35 o34 o6 o67 o66 o65 o8 o11 o76 o75 o74 o12 o7 o116 o115 o114 o174 o173 o172 e6 e7 e8 ⊢
  subst e6 e7 e8
  obtain ⟨d', e, hd'⟩ := of_pass h f (.one (.sl (h.length + 1) 1 f.blocks.length 0 f.blocks.length)) (some (.row 1 (intsOf up))) hw9 dp kids hkn hn D hpl at_ hal hat (Sl (intsOf ord)) up J
    ⟨v35, v34, Sl (intsOf ord), v67, v66, v65, Sl (listsOf prs), v11, v76, v75, v74, v12, Sl (intsOf at_), v116, v115, v114, v174, v173, v172⟩ ⟨⟨o35, o34, rfl, o67, o66, o65, rfl, o11, o76, o75, o74, o12, rfl, o116, o115, o114, o174, o173, o172⟩, rfl, rfl, rfl⟩
  obtain ⟨w35, w34, w6, w67, w66, w65, w8, w11, w76, w75, w74, w12, w7, w116, w115, w114, w174, w173, w172⟩ := d'
  obtain ⟨⟨q35, q34, q6, q67, q66, q65, q8, q11, q76, q75, q74, q12, q7, q116, q115, q114, q174, q173, q172⟩, g6, g7, g8⟩ := hd'
  simp only at q35 q34 q6 q67 q66 q65 q8 q11 q76 q75 q74 q12 q7 q116 q115 q114 q174 q173 q172 g6 g7 g8
  subst g6 g7 g8
  generalize hup : passG pl (2 * f.blocks.length) prs (ord.drop 1) up = up' at p1 p2 p3 hul' eq e
  have hn0 : f.blocks.length ≠ 0 := by omega
  simp [domS, domT, encFn, lpK, lvOf, Try.f32, -List.drop_one] at e
  by_cases hee : up = up'
  · subst hee
    refine .inr ⟨(.exit 2, wasS h f up up dp kids ⟨w35, w34, Sl (intsOf ord), w67, w66, w65, Sl (listsOf prs), w11, w76, w75, w74, w12, Sl (intsOf at_), w116, w115, w114, w174, w173, w172⟩), ?_, nofun, up, _, rfl, ?_, ⟨⟨q35, q34, rfl, q67, q66, q65, rfl, q11, q76, q75, q74, q12, rfl, q116, q115, q114, q174, q173, q172⟩, rfl, rfl, rfl⟩⟩
    · simp (disch := (first | omega | simp (disch := omega) [])) [round_eq, wasS, domS, domT, domH, encFn, Try.f32, lvOf, hul, hwl, hn0, hnp, hol, slice_tail _ hol, wrap_i64, -getElem?_pos, -tidy_eq, -List.drop_one]
      rw [tidy_domU hkn ?_ hw9 ?_ ?_]
      rotate_left
      · simp
      · simp (disch := omega) [domK_p, domK_b, domK_s, domK_b2, domK_nil, o35, o34, o6, o67, o66, o65, o8, o11, o76, o75, o74, o12, o116, o115, o114, o174, o173, o172]
      · simp
      simp (disch := (first | omega | simp (disch := omega) [])) [e, wrap_i64, -getElem?_pos, -tidy_eq, -List.drop_one]
      simp (disch := (first | omega | simp (disch := omega) [])) [domH, hul, hul', eq, wrap_i64, -getElem?_pos, -tidy_eq, -List.drop_one]
      refine (tidy_domU hkn ?_ hw9 ?_ ?_).trans ?_ <;> simp (disch := omega) [domK_p, domK_b, domK_s, domK_b2, domK_nil, domH, q35, q34, q6, q67, q66, q65, q8, q11, q76, q75, q74, q12, q116, q115, q114, q174, q173, q172]
    · exact doms_of D p1 (p3 rfl).2
  · refine .inl ⟨(up, up', ⟨w35, w34, Sl (intsOf ord), w67, w66, w65, Sl (listsOf prs), w11, w76, w75, w74, w12, Sl (intsOf at_), w116, w115, w114, w174, w173, w172⟩), ?_, ⟨hul, pinv_next D p1, ⟨⟨q35, q34, rfl, q67, q66, q65, rfl, q11, q76, q75, q74, q12, rfl, q116, q115, q114, q174, q173, q172⟩, rfl, rfl, rfl⟩⟩, ?_, fun r hr => hr⟩
    · simp (disch := (first | omega | simp (disch := omega) [])) [round_eq, wasS, domS, domT, domH, encFn, Try.f32, lvOf, hul, hwl, hn0, hnp, hol, slice_tail _ hol, wrap_i64, -getElem?_pos, -tidy_eq, -List.drop_one]
      rw [tidy_domU hkn ?_ hw9 ?_ ?_]
      rotate_left
      · simp
      · simp (disch := omega) [domK_p, domK_b, domK_s, domK_b2, domK_nil, o35, o34, o6, o67, o66, o65, o8, o11, o76, o75, o74, o12, o116, o115, o114, o174, o173, o172]
      · simp
      simp (disch := (first | omega | simp (disch := omega) [])) [e, wrap_i64, -getElem?_pos, -tidy_eq, -List.drop_one]
      simp (disch := (first | omega | simp (disch := omega) [])) [domH, hul, hul', eq, hee, wrap_i64, -getElem?_pos, -tidy_eq, -List.drop_one]
      refine (tidy_domU hkn ?_ hw9 ?_ ?_).trans ?_ <;> simp (disch := omega) [domK_p, domK_b, domK_s, domK_b2, domK_nil, domH, hee, q35, q34, q6, q67, q66, q65, q8, q11, q76, q75, q74, q12, q116, q115, q114, q174, q173, q172]
    · show mu _ _ up' < mu _ _ up
      have : mu f.blocks.length pl up' ≠ mu f.blocks.length pl up := fun e => hee (p3 e).1.symm
      omega
end Go.Proofs.Ytdkknhpdjcdmfaa.Abs

/- dom.Of: depths, and kids. -/
set_option linter.unusedSimpArgs false
set_option linter.unusedVariables false
namespace Go.Proofs.Ytdkknhpdjcdmfaa.Abs
open Go Go.RowKit Go.Proofs

theorem set_gar {rows : List (List Int)} {n : Nat} (hn : rows.length = n) (g : Heap) (o : Option AO) : (fam rows ++ g).set n o = fam rows ++ g.set 0 o := by
  subst hn
  rw [List.set_append_right _ _ (by simp), fam_length, Nat.sub_self]
theorem set_gar1 {rows : List (List Int)} {n : Nat} (hn : rows.length = n) (g : Heap) (o : Option AO) : (fam rows ++ g).set (n + 1) o = fam rows ++ g.set 1 o := by
  subst hn
  rw [List.set_append_right _ _ (by simp), fam_length]
  congr 2
  omega

theorem take_gar {rows : List (List Int)} {n : Nat} (hn : rows.length = n) (g : Heap) (j : Nat) : (fam rows ++ g).take (n + j) = fam rows ++ g.take j := by
  subst hn
  rw [List.take_append, fam_length, List.take_of_length_le (by simp)]
  congr 2
  omega
theorem drop_gar {rows : List (List Int)} {n : Nat} (hn : rows.length = n) (g : Heap) (j : Nat) : (fam rows ++ g).drop (n + j) = g.drop j := by
  subst hn
  rw [List.drop_append, fam_length, List.drop_eq_nil_of_le (by simp), List.nil_append]
  congr 1
  omega
theorem at_gar {rows : List (List Int)} {n : Nat} (hn : rows.length = n) (g : Heap) : (fam rows ++ g)[n]? = g[0]? := by
  subst hn
  rw [List.getElem?_append_right (by simp), fam_length, Nat.sub_self]
theorem nth_gar {rows : List (List Int)} {n : Nat} (hn : rows.length = n) (g : Heap) : nthO (fam rows ++ g) n = nthO g 0 := by
  have : ∀ (t : Heap) (j : Nat), nthO t j = t[j]? := fun t j => by
    induction t generalizing j with
    | nil => rfl
    | cons a t ih => cases j with
      | zero => rfl
      | succ j => simpa [nthO] using ih j
  rw [this, this, at_gar hn]
theorem at_gar1 {rows : List (List Int)} {n : Nat} (hn : rows.length = n) (g : Heap) : (fam rows ++ g)[n + 1]? = g[1]? := by
  subst hn
  rw [List.getElem?_append_right (by simp), fam_length]
  congr 1
  omega
theorem nth_gar1 {rows : List (List Int)} {n : Nat} (hn : rows.length = n) (g : Heap) : nthO (fam rows ++ g) (n + 1) = nthO g 1 := by
  rw [← nthO_eq, ← nthO_eq, at_gar1 hn]
def DepOK (n i : Nat) (dp : List Int) : Prop := dp.length = n ∧ dp[0]? = some 0 ∧ ∀ x, x ∈ dp → 0 ≤ x ∧ x ≤ i

def DpUp (up tail : List Int) (i : Nat) (dp : List Int) : Prop := ∀ (j q b : Nat), j < i → tail[j]? = some (q : Int) → up[q]? = some (b : Int) → ∃ x, dp[b]? = some x ∧ dp[q]? = some (x + 1)
def DpZ (tail : List Int) (i : Nat) (dp0 dp : List Int) : Prop := ∀ v : Nat, (∀ j, j < i → tail[j]? ≠ some (v : Int)) → dp[v]? = dp0[v]?
def kidsT (up tail : List Int) (a : Nat) : List Int := tail.filter fun k => decide (up[k.toNat]? = some (a : Int))
def KOK (up tail : List Int) (i : Nat) (kids : List (List Int)) : Prop := ∀ (a : Nat) (l : List Int), kids[a]? = some l → l = kidsT up (tail.take i) a
theorem KOK.next {up tail : List Int} {i q b : Nat} {kids : List (List Int)} {acc : List Int} (h : KOK up tail i kids) (hk : tail[i]? = some (q : Int)) (hub : up[q]? = some (b : Int)) (ha : kids[b]? = some acc) : KOK up tail (i + 1) (kids.set b (acc ++ [(q : Int)])) := by
  intro a l hl
  have ht : tail.take (i + 1) = tail.take i ++ [(q : Int)] := by rw [List.take_add_one, hk]; rfl
  unfold kidsT
  rw [ht, List.filter_append]
  rw [List.getElem?_set] at hl
  by_cases e : b = a
  · subst e
    rw [if_pos rfl, if_pos (List.getElem?_eq_some_iff.1 ha).1] at hl
    cases hl
    have := h b acc ha
    rw [this]
    simp [kidsT, hub]
  · rw [if_neg e] at hl
    have := h a l hl
    rw [this]
    have hne : ¬ ((b : Nat) : Int) = ((a : Nat) : Int) := by omega
    simp [kidsT, hub, hne]
    done

theorem of_deep (h : Heap) (f : Fn) (v9 : V) (bw : Option AO) (hw9 : WasOK h.length f.blocks.length v9 bw) (hn : f.blocks.length ≤ 1000) (up tail : List Int) (hul : up.length = f.blocks.length) (hmax : tail.length ≤ 1000)
    (ht : ∀ k, k ∈ tail → ∃ q b : Nat, k = (q : Int) ∧ q ≠ 0 ∧ q < f.blocks.length ∧ up[q]? = some (b : Int) ∧ b < f.blocks.length)
    (hnd : ∀ (i j : Nat) (k : Int), tail[i]? = some k → tail[j]? = some k → i = j) (hup : ∀ (j q b : Nat), tail[j]? = some (q : Int) → up[q]? = some (b : Int) → ∀ i, j ≤ i → tail[i]? ≠ some (b : Int))
    (dp : List Int) (kids : List (List Int)) (hdp : DepOK f.blocks.length 0 dp) (hkn : kids.length = f.blocks.length) (hlow : Low 0 kids) (hko : KOK up tail 0 kids) (d : DT) (hd : d.Ok) :
    ∃ dp' kids' d', lpK 32 Try.f32 182 4 h (domS h f v9 bw up dp kids { d with v116 := I (0 : Nat), v115 := I (tail.length : Nat), v114 := Sl (intsOf tail) }) =
      some (.exit 9, domS h f v9 bw up dp' kids' d') ∧ d'.Ok ∧ (DepOK f.blocks.length tail.length dp' ∧ DpUp up tail tail.length dp' ∧ DpZ tail tail.length dp dp') ∧ (kids'.length = f.blocks.length ∧ KOK up tail tail.length kids') ∧ Low tail.length kids' := by
  have dd := dt32
  simp [Try.f32, infoFn, infoRegs, List.lookup] at dd
  have key := loop_rel (P := Try.prog) (C := cfg) (sc := runScope Try.prog cfg 182 h.length (cfg.live 32) 0) (N := 182) (n0 := h.length) (K := cfg.live 32) (c := loopAt Try.f32 4)
    (fun s : Nat × List Int × List (List Int) => domS h f v9 bw up s.2.1 s.2.2 { d with v116 := I (s.1 : Nat), v115 := I (tail.length : Nat), v114 := Sl (intsOf tail) })
    (fun s => s.1 ≤ tail.length ∧ (DepOK f.blocks.length s.1 s.2.1 ∧ DpUp up tail s.1 s.2.1 ∧ DpZ tail s.1 dp s.2.1) ∧ (s.2.2.length = f.blocks.length ∧ KOK up tail s.1 s.2.2) ∧ Low s.1 s.2.2) (fun s => tail.length - s.1)
    (fun s r => ∃ dp' kids' d', r = (.exit 9, domS h f v9 bw up dp' kids' d') ∧ d'.Ok ∧ (DepOK f.blocks.length tail.length dp' ∧ DpUp up tail tail.length dp' ∧ DpZ tail tail.length dp dp') ∧ (kids'.length = f.blocks.length ∧ KOK up tail tail.length kids') ∧ Low tail.length kids') ?_ (0, dp, kids) ⟨Nat.zero_le _, ⟨hdp, (fun j q b hj => by omega), fun v _ => rfl⟩, ⟨hkn, hko⟩, hlow⟩
  · obtain ⟨r, h1, dp', kids', d', rfl, h2⟩ := key
    exact ⟨dp', kids', d', h1, h2⟩
  clear hdp hkn hlow hko kids
  generalize dp = dp0
  clear dp
  rintro ⟨i, dp, kids⟩ ⟨hi, hdp, ⟨hkn, hko⟩, hlow⟩
  simp only at hi hdp hkn hko hlow ⊢
  obtain ⟨v35, v34, v6, v67, v66, v65, v8, v11, v76, v75, v74, v12, v7, v116, v115, v114, v174, v173, v172⟩ := d
  obtain ⟨o35, o34, o6, o67, o66, o65, o8, o11, o76, o75, o74, o12, o7, o116, o115, o114, o174, o173, o172⟩ := hd
  simp only at o35 o34 o6 o67 o66 o65 o8 o11 o76 o75 o74 o12 o7 o116 o115 o114 o174 o173 o172 ⊢
  obtain ⟨⟨hdl, hd0, hdr⟩, hdu, hdz⟩ := hdp
  rcases Nat.lt_or_ge i tail.length with hlt | hge
  · have hltI : ((i : Nat) : Int) < ((tail.length : Nat) : Int) := by omega
    obtain ⟨k, hk⟩ : ∃ k, tail[i]? = some k := ⟨_, List.getElem?_eq_getElem hlt⟩
    obtain ⟨q, b, rfl, hq0, hqn, hub, hbn⟩ := ht k (List.mem_of_getElem? hk)
    obtain ⟨x, hx⟩ : ∃ x, dp[b]? = some x := ⟨_, List.getElem?_eq_getElem (by omega)⟩
    obtain ⟨y, hy⟩ : ∃ y, dp[q]? = some y := ⟨_, List.getElem?_eq_getElem (by omega)⟩
    obtain ⟨acc, ha⟩ : ∃ acc, kids[b]? = some acc := ⟨_, List.getElem?_eq_getElem (by omega)⟩
    have hx2 := hdr x (List.mem_of_getElem? hx)
    have hal := hlow acc (List.mem_of_getElem? ha)
    have hln2 : (kids.set b (acc ++ [(q : Int)])).length = f.blocks.length := by simp [hkn]
    have hset : (outR h.length 6 kids).set b [.sl (h.length + (b + 6)) 1 (acc.length + 1) 0 (acc.length + 1)] = outR h.length 6 (kids.set b (acc ++ [(q : Int)])) := by
      have := outR_set h.length 6 kids b (acc ++ [(q : Int)])
      simpa using this
    refine .inl ⟨(i + 1, dp.set q (x + 1), kids.set b (acc ++ [(q : Int)])), ?_, ⟨hlt, ⟨⟨by simpa using hdl, ?_, ?_⟩, ?_, fun v hv => ?_⟩, ⟨hln2, hko.next hk hub ha⟩, ?_⟩, by first | omega | (simp only; omega), fun r hr => hr⟩
    · simp (disch := (first | omega | simp (disch := omega) [hkn])) [round_eq, domS, domT, domH, encFn, Try.f32, lvOf, hlt, hltI, hk, hqn, hbn, hub, hx, hy, ha, hul, hdl, hkn, dd, unOK, apartR, disjoint, cellsApart, room_of, row_fam0 _ ha, row_fam _ _ ha, row_gar hkn, set_gar hkn, set_gar1 hkn, take_gar hkn, drop_gar hkn, nth_gar hkn, at_gar hkn, at_gar1 hkn, nth_gar1 hkn, take_gar hln2, drop_gar hln2, nth_gar hln2, at_gar hln2, at_gar1 hln2, nth_gar1 hln2, set_gar hln2, set_gar1 hln2, Nat.add_assoc, set_fam, intsOf_snoc, intsOf_set, hset, wrap_i64, -getElem?_pos, -tidy_eq]
      refine (tidy_dom hln2 ?_ hw9 ?_ ?_).trans ?_ <;> simp (disch := omega) [domK_p, domK_b, domK_s, domK_b2, domK_nil, domH, o35, o34, o6, o67, o66, o65, o8, o11, o76, o75, o74, o12, o7, o174, o173, o172]
    · rw [List.getElem?_set, if_neg hq0]; exact hd0
    · intro z hz
      rcases List.mem_or_eq_of_mem_set hz with hz | rfl
      · have := hdr z hz; omega
      · omega
    · intro j q' b' hj hq' hb'
      simp only at hj ⊢
      rw [List.getElem?_set, List.getElem?_set]
      have n2 : ¬ q = b' := fun e => hup j q' b' hq' hb' i (by omega) (by rw [hk, e])
      rw [if_neg n2]
      rcases Nat.lt_or_ge j i with hji | hji
      · have n1 : ¬ q = q' := fun e => by subst e; have := hnd j i _ hq' hk; omega
        rw [if_neg n1]
        exact hdu j q' b' hji hq' hb'
      · obtain rfl : j = i := by omega
        rw [hk] at hq'
        obtain rfl : q = q' := by injection hq' with hq'; omega
        rw [hub] at hb'
        obtain rfl : b = b' := by injection hb' with hb'; omega
        rw [if_pos rfl, if_pos (by omega)]
        exact ⟨x, hx, rfl⟩
    · have h1 : ¬ q = v := fun e => by subst e; exact hv i (by simp only; omega) hk
      simp only
      rw [List.getElem?_set, if_neg h1]
      exact hdz v fun j hj => hv j (by simp only; omega)
    · intro l hl
      rcases List.mem_or_eq_of_mem_set hl with hl | rfl
      · have := hlow l hl; omega
      · simp; omega
  · have : i = tail.length := by omega
    subst this
    refine .inr ⟨_, ?_, ?_, dp, kids, ⟨v35, v34, v6, v67, v66, v65, v8, v11, v76, v75, v74, v12, v7, I (tail.length : Nat), I (tail.length : Nat), Sl (intsOf tail), v174, v173, v172⟩, rfl, ⟨o35, o34, o6, o67, o66, o65, o8, o11, o76, o75, o74, o12, o7, rfl, rfl, rfl, o174, o173, o172⟩, ⟨⟨hdl, hd0, hdr⟩, hdu, hdz⟩, ⟨hkn, hko⟩, hlow⟩
    · simp (disch := (first | omega | simp (disch := omega) [])) [round_eq, domS, domT, Try.f32, lvOf, -getElem?_pos, -tidy_eq]
      refine (tidy_dom' hkn ?_ hw9 ?_ ?_).trans ?_ <;> simp (disch := omega) [domK_p, domK_b, domK_s, domK_b2, domK_nil, encFn_pl, o35, o34, o6, o67, o66, o65, o8, o11, o76, o75, o74, o12, o7, o174, o173, o172]
    · nofun
end Go.Proofs.Ytdkknhpdjcdmfaa.Abs

/- dom.Of: kids, sorted. -/
set_option linter.unusedSimpArgs false
set_option linter.unusedVariables false
namespace Go.Proofs.Ytdkknhpdjcdmfaa.Abs
open Go Go.RowKit Go.Proofs

theorem set_same {α : Type} {l : List α} {i : Nat} {x : α} (h : l[i]? = some x) : l.set i x = l := by
  apply List.ext_getElem?
  intro j
  rw [List.getElem?_set]
  split
  · rename_i e; subst e
    rw [if_pos (List.getElem?_eq_some_iff.1 h).1, h]
  · rfl
theorem outR_same (b k : Nat) (ls : List (List Int)) (i : Nat) (l acc : List Int) (ha : ls[i]? = some acc) (hl : l.length = acc.length) : outR b k (ls.set i l) = outR b k ls := by
  rw [← outR_set]
  refine set_same ?_
  rw [outR_get, ha, hl]
  rfl
theorem upd_dom (h : Heap) (n : Nat) (bf bw : Option AO) (up dp : List Int) (kids : List (List Int)) (i : Nat) (l acc : List Int) (ha : kids[i]? = some acc) (hl : l.length = acc.length) :
    updH (h ++ domH h.length n bf bw up dp kids) (h.length + (i + 6)) 1 (intsOf l) = h ++ domH h.length n bf bw up dp (kids.set i l) := by
  unfold updH
  rw [set_at]
  congr 1
  unfold domH
  simp only [List.set_cons_succ, fam_set]
  rw [outR_same _ _ kids i l acc ha hl]

def KSort (kids0 : List (List Int)) (i : Nat) (kids : List (List Int)) : Prop := kids.length = kids0.length ∧ ∀ (a : Nat) (l : List Int), kids0[a]? = some l → ∃ l', kids[a]? = some l' ∧ l'.Perm l ∧ (a < i → SrtTo l' l'.length) ∧ (i ≤ a → l' = l)
theorem KSort.zero (kids : List (List Int)) : KSort kids 0 kids := ⟨rfl, fun a l h => ⟨l, h, .refl _, fun h => by omega, fun _ => rfl⟩⟩
theorem KSort.next {kids0 kids : List (List Int)} {i : Nat} {acc ys : List Int} (h : KSort kids0 i kids) (ha : kids[i]? = some acc) (hp : ys.Perm acc) (hs : SrtTo ys ys.length) : KSort kids0 (i + 1) (kids.set i ys) := by
  refine ⟨by simp [h.1], fun a l hl => ?_⟩
  obtain ⟨l', h1, h2, h3, h4⟩ := h.2 a l hl
  by_cases e : i = a
  · subst e
    rw [ha] at h1; cases h1
    refine ⟨ys, ?_, hp.trans h2, fun _ => hs, fun h => by omega⟩
    rw [List.getElem?_set, if_pos rfl, if_pos (List.getElem?_eq_some_iff.1 ha).1]
  · refine ⟨l', ?_, h2, fun h => h3 (by omega), fun h => h4 (by omega)⟩
    rw [List.getElem?_set, if_neg e]; exact h1

theorem of_sort (h : Heap) (f : Fn) (v9 : V) (bw : Option AO) (hw9 : WasOK h.length f.blocks.length v9 bw) (hn : f.blocks.length ≤ 1000) (up dp : List Int)
    (kids : List (List Int)) (hkn : kids.length = f.blocks.length) (hlow : Low 12 kids) (d : DT) (hd : d.Ok) :
    ∃ kids' d', lpK 32 Try.f32 182 5 h (domS h f v9 bw up dp kids { d with v174 := I (0 : Nat), v173 := I (f.blocks.length : Nat), v172 := .one (.sl (h.length + 5) 1 f.blocks.length 0 f.blocks.length) }) =
      some (.exit 11, domS h f v9 bw up dp kids' d') ∧ kids'.length = f.blocks.length ∧ KSort kids f.blocks.length kids' := by
  have key := loop_rel (P := Try.prog) (C := cfg) (sc := runScope Try.prog cfg 182 h.length (cfg.live 32) 0) (N := 182) (n0 := h.length) (K := cfg.live 32) (c := loopAt Try.f32 5)
    (fun s : Nat × List (List Int) => domS h f v9 bw up dp s.2 { d with v174 := I (s.1 : Nat), v173 := I (f.blocks.length : Nat), v172 := .one (.sl (h.length + 5) 1 f.blocks.length 0 f.blocks.length) })
    (fun s => s.1 ≤ f.blocks.length ∧ (s.2.length = f.blocks.length ∧ KSort kids s.1 s.2) ∧ Low 12 s.2) (fun s => f.blocks.length - s.1)
    (fun s r => ∃ kids' d', r = (.exit 11, domS h f v9 bw up dp kids' d') ∧ kids'.length = f.blocks.length ∧ KSort kids f.blocks.length kids') ?_ (0, kids) ⟨Nat.zero_le _, ⟨hkn, .zero _⟩, hlow⟩
  · obtain ⟨r, h1, kids', d', rfl, h2⟩ := key
    exact ⟨kids', d', h1, h2⟩
  clear hkn hlow
  generalize kids = kids0
  clear kids
  rintro ⟨i, kids⟩ ⟨hi, ⟨hkn, hso⟩, hlow⟩
  simp only at hi hkn hso hlow ⊢
  obtain ⟨v35, v34, v6, v67, v66, v65, v8, v11, v76, v75, v74, v12, v7, v116, v115, v114, v174, v173, v172⟩ := d
  obtain ⟨o35, o34, o6, o67, o66, o65, o8, o11, o76, o75, o74, o12, o7, o116, o115, o114, o174, o173, o172⟩ := hd
  simp only at o35 o34 o6 o67 o66 o65 o8 o11 o76 o75 o74 o12 o7 o116 o115 o114 o174 o173 o172 ⊢
  rcases Nat.lt_or_ge i f.blocks.length with hlt | hge
  · have hltI : ((i : Nat) : Int) < ((f.blocks.length : Nat) : Int) := by omega
    obtain ⟨acc, ha⟩ : ∃ acc, kids[i]? = some acc := ⟨_, List.getElem?_eq_getElem (by omega)⟩
    have hal := hlow acc (List.mem_of_getElem? ha)
    have hlen : (h ++ domH h.length f.blocks.length (some (.row 5 [encFn f])) bw up dp kids).length = h.length + (kids.length + 6) := by simp [domH]
    obtain ⟨ys, ws, e, ⟨hyl, hpm, hys⟩, hws⟩ := sort (h ++ domH h.length f.blocks.length (some (.row 5 [encFn f])) bw up dp kids) (h.length + (i + 6)) (by rw [hlen]; omega) acc.length (by omega) acc rfl
    have hself : updH (h ++ domH h.length f.blocks.length (some (.row 5 [encFn f])) bw up dp kids) (h.length + (i + 6)) 1 (intsOf acc) = h ++ domH h.length f.blocks.length (some (.row 5 [encFn f])) bw up dp kids := by
      rw [upd_dom _ _ _ _ _ _ _ _ acc acc ha rfl, set_same ha]
    rw [hself, upd_dom _ _ _ _ _ _ _ _ ys acc ha hyl] at e
    have hln2 : (kids.set i ys).length = f.blocks.length := by simp [hkn]
    have hwo : wsOf h.length ws = [] := wsOf_own fun x hx => by rw [hws x hx]; omega
    simp [domH, encFn] at e
    refine .inl ⟨(i + 1, kids.set i ys), ?_, ⟨hlt, ⟨hln2, hso.next ha hpm (by rw [hyl]; exact hys)⟩, ?_⟩, by first | omega | (simp only; omega), fun r hr => hr⟩
    · simp (disch := (first | omega | simp (disch := omega) [hkn])) [round_eq, domS, domT, domH, encFn, Try.f32, lvOf, hlt, hltI, ha, hkn, e, wrap_i64, -getElem?_pos, -tidy_eq]
      refine (tidy_dom' hln2 ?_ hw9 ?_ ?_).trans ?_ <;> simp (disch := omega) [domK_p, domK_b, domK_s, domK_b2, domK_nil, domH, hwo, o35, o34, o6, o67, o66, o65, o8, o11, o76, o75, o74, o12, o7, o116, o115, o114]
    · intro l hl
      rcases List.mem_or_eq_of_mem_set hl with hl | rfl
      · exact hlow l hl
      · omega
  · have : i = f.blocks.length := by omega
    subst this
    refine .inr ⟨_, ?_, ?_, kids, ⟨v35, v34, v6, v67, v66, v65, v8, v11, v76, v75, v74, v12, v7, v116, v115, v114, I (f.blocks.length : Nat), I (f.blocks.length : Nat), .one (.sl (h.length + 5) 1 f.blocks.length 0 f.blocks.length)⟩, rfl, hkn, hso⟩
    · simp (disch := (first | omega | simp (disch := omega) [])) [round_eq, domS, domT, Try.f32, lvOf, -getElem?_pos, -tidy_eq]
      refine (tidy_dom' hkn ?_ hw9 ?_ ?_).trans ?_ <;> simp (disch := omega) [domK_p, domK_b, domK_s, domK_b2, domK_nil, encFn_pl, o35, o34, o6, o67, o66, o65, o8, o11, o76, o75, o74, o12, o7, o116, o115, o114]
    · nofun
end Go.Proofs.Ytdkknhpdjcdmfaa.Abs

/- The state of dom.Of, where the links as they were are made. -/
set_option linter.unusedSimpArgs false
set_option linter.unusedVariables false
namespace Go.Proofs.Ytdkknhpdjcdmfaa.Abs
open Go Go.RowKit Go.Proofs

theorem newRows_fam {H : Heap} {n0 b : Nat} {L : List (Option Nat)} (hb : n0 ≤ b) : ∀ (k : Nat) (ls : List (List Int)), (∀ i l, ls[i]? = some l → placeOf (b + (k + i)) L n0 = some (b + (k + i)) ∧ H[b + (k + i)]? = some (some (.row 1 (intsOf l)))) → ∀ p, newRows H n0 L [2] p (outR b k ls) = some (outR b k ls, fam ls)
  | _, [], _, p => rfl
  | k, l :: ls, h, p => by
    obtain ⟨h1, h2⟩ := h 0 l rfl
    rw [Nat.add_zero] at h1 h2
    have ih := newRows_fam hb (k + 1) ls fun i x hx => by
      have := h (i + 1) x (by simpa using hx)
      rw [show k + 1 + i = k + (i + 1) by omega]
      exact this
    have f1 : fzT H n0 L (.sl (b + k) 1 l.length 0 l.length) = some (.sl (b + k) 1 l.length 0 l.length) := by rw [fzT_sl, if_pos (by omega), h1]; rfl
    have f2 : objOf H n0 L (ownId n0 (.sl (b + k) 1 l.length 0 l.length)) = some (some (.row 1 (intsOf l))) := by
      have : ownId n0 (.sl (b + k) 1 l.length 0 l.length) = some (b + k) := by simp [ownId, refId]; omega
      rw [this]
      simp only [objOf, h2, fzO, mapO_ints]; rfl
    simp only [outR, newRows, newCells, f1, f2, ih]
    simp [fam, mapO, newCells]

theorem tidy_dom1 {h : Heap} {T : Tmps} {ws : List Nat} {n : Nat} {cf : List Leaf} {up dp was : List Int} {kids : List (List Int)} (hkn : kids.length = n) (hcf : cf.all plL = true)
    (hK : DomK T (.one (.ptr h.length 1 0 0)) (.one (.sl (h.length + (n + 6)) 1 n 0 n)) (.one (.ptr (h.length + 2) 1 0 0)) .junk K61) (hw : wsOf h.length ws = []) :
    tidy h.length K61 ⟨T, h ++ (some (.row 5 [cf]) :: none :: some (.row 3 [[.sl (h.length + 3) 1 n 0 n, .sl (h.length + 4) 1 n 0 n, .sl (h.length + 5) 1 n 0 n]]) :: some (.row 1 (intsOf up)) :: some (.row 1 (intsOf dp)) :: some (.row 1 (outR h.length 6 kids)) :: (fam kids ++ [some (.row 1 (intsOf was))])), ws⟩ =
      ⟨K61.map fun e => (e.1, if e.1 = 9 then .one (.sl (h.length + 1) 1 n 0 n) else tget T e.1), h ++ domH h.length n (some (.row 5 [cf])) (some (.row 1 (intsOf was))) up dp kids, []⟩ := by
  subst hkn
  obtain ⟨⟨_, hT1⟩, p3, p35, p34, ⟨_, hT9⟩, p6, p67, p66, p65, p8, p11, p76, p75, p74, p12, p7, p116, p115, p114, p174, p173, p172, ⟨_, hT4⟩, _⟩ := hK
  simp only at hT1 hT9 hT4 p3 p35 p34 p6 p67 p66 p65 p8 p11 p76 p75 p74 p12 p7 p116 p115 p114 p174 p173 p172
  have pj : ∀ {v : V}, plV v = true ∨ v = .junk → plV v = true := fun h => h.elim id fun e => by rw [e]; rfl
  replace p3 := pj p3
  replace p35 := pj p35
  replace p34 := pj p34
  replace p6 := pj p6
  replace p67 := pj p67
  replace p66 := pj p66
  replace p65 := pj p65
  replace p8 := pj p8
  replace p11 := pj p11
  replace p76 := pj p76
  replace p75 := pj p75
  replace p74 := pj p74
  replace p12 := pj p12
  replace p7 := pj p7
  replace p116 := pj p116
  replace p115 := pj p115
  replace p114 := pj p114
  replace p174 := pj p174
  replace p173 := pj p173
  replace p172 := pj p172
  have wrow : ∀ i l, kids[i]? = some l → (h ++ (some (AO.row 5 [cf]) :: none :: some (.row 3 [[.sl (h.length + 3) 1 kids.length 0 kids.length, .sl (h.length + 4) 1 kids.length 0 kids.length, .sl (h.length + 5) 1 kids.length 0 kids.length]]) :: some (.row 1 (intsOf up)) :: some (.row 1 (intsOf dp)) :: some (.row 1 (outR h.length 6 kids)) :: (fam kids ++ [some (.row 1 (intsOf was))])))[h.length + (6 + i)]? = some (some (.row 1 (intsOf l))) := by
    intro i l hl
    have hi := (List.getElem?_eq_some_iff.1 hl).1
    rw [List.getElem?_append_right (by omega), Nat.add_sub_cancel_left, show 6 + i = i + 6 by omega]
    show (fam kids ++ [some (.row 1 (intsOf was))])[i]? = _
    rw [List.getElem?_append_left (by simpa using hi), fam_get, hl]
    rfl
  have wat : (h ++ (some (AO.row 5 [cf]) :: none :: some (.row 3 [[.sl (h.length + 3) 1 kids.length 0 kids.length, .sl (h.length + 4) 1 kids.length 0 kids.length, .sl (h.length + 5) 1 kids.length 0 kids.length]]) :: some (.row 1 (intsOf up)) :: some (.row 1 (intsOf dp)) :: some (.row 1 (outR h.length 6 kids)) :: (fam kids ++ [some (.row 1 (intsOf was))])))[h.length + (kids.length + 6)]? = some (some (.row 1 (intsOf was))) := by
    rw [List.getElem?_append_right (by omega), Nat.add_sub_cancel_left]
    show (fam kids ++ [some (.row 1 (intsOf was))])[kids.length]? = _
    rw [List.getElem?_append_right (by simp), fam_length, Nat.sub_self]
    rfl
  generalize hH : h ++ (some (AO.row 5 [cf]) :: none :: some (.row 3 [[.sl (h.length + 3) 1 kids.length 0 kids.length, .sl (h.length + 4) 1 kids.length 0 kids.length, .sl (h.length + 5) 1 kids.length 0 kids.length]]) :: some (.row 1 (intsOf up)) :: some (.row 1 (intsOf dp)) :: some (.row 1 (outR h.length 6 kids)) :: (fam kids ++ [some (.row 1 (intsOf was))])) = H at wrow wat
  have at0 : H[h.length]? = some (some (.row 5 [cf])) := by
    rw [← hH, List.getElem?_append_right (by omega), Nat.sub_self]; rfl
  have at2 : H[h.length + 2]? = some (some (.row 3 [[.sl (h.length + 3) 1 kids.length 0 kids.length, .sl (h.length + 4) 1 kids.length 0 kids.length, .sl (h.length + 5) 1 kids.length 0 kids.length]])) := by
    rw [← hH, List.getElem?_append_right (by omega), Nat.add_sub_cancel_left]; rfl
  have at3 : H[h.length + 3]? = some (some (.row 1 (intsOf up))) := by
    rw [← hH, List.getElem?_append_right (by omega), Nat.add_sub_cancel_left]; rfl
  have at4 : H[h.length + 4]? = some (some (.row 1 (intsOf dp))) := by
    rw [← hH, List.getElem?_append_right (by omega), Nat.add_sub_cancel_left]; rfl
  have at5 : H[h.length + 5]? = some (some (.row 1 (outR h.length 6 kids))) := by
    rw [← hH, List.getElem?_append_right (by omega), Nat.add_sub_cancel_left]; rfl
  have own : ∀ j, ownId h.length (.sl (h.length + j) 1 kids.length 0 kids.length) = some (h.length + j) := fun j => by simp [ownId, refId]
  have hr4 : rootOf h.length (.one (.ptr (h.length + 2) 1 0 0)) = some (h.length + 2) := by simp [rootOf, ownId, refId]
  have hr1 : rootOf h.length (.one (.ptr h.length 1 0 0)) = some h.length := by simp [rootOf, ownId, refId]
  have hr9 : rootOf h.length (.one (.sl (h.length + (kids.length + 6)) 1 kids.length 0 kids.length)) = some (h.length + (kids.length + 6)) := by simp [rootOf, ownId, refId]
  have hfl : (outR h.length 6 kids).flatMap (cellIds h.length [2]) = idsR h.length 6 kids.length := cells_outR (Nat.le_refl _) 6 kids
  have hcan : Canon h.length 6 (fam kids ++ []) (idsR h.length 6 kids.length) := canon_fam _ _ _ _
  generalize hLd : (some h.length :: some (h.length + (kids.length + 6)) :: some (h.length + 2) :: some (h.length + 3) :: some (h.length + 4) :: some (h.length + 5) :: idsR h.length 6 kids.length) = L
  have hL : kdL H h.length T K61 = L := by
    rw [← hLd]
    simp only [kdL, kdIds, hT1, hT9, hT4, hr1, hr4, hr9, insideIds2, at2, List.flatMap_cons, List.flatMap_nil, cellIds2, own, insideIds, at5, hfl]
    simp
  have hmem : ∀ (p k : Nat) (id : Nat), some id ∈ idsR h.length p k → h.length + p ≤ id ∧ id < h.length + (p + k) := by
    intro p k
    induction k generalizing p with
    | zero => intro id hid; simp [idsR] at hid
    | succ k ih =>
      intro id hid
      rcases List.mem_cons.1 hid with e | hid
      · cases e; omega
      · have := ih (p + 1) id hid; omega
  have hok : okL h.length L = true := by
    have h1 := hcan.okL.1
    have n1 : ∀ j, (j < 6 ∨ kids.length + 6 ≤ j) → (idsR h.length 6 kids.length).contains (some (h.length + j)) = false := by
      intro j hj
      rw [← Bool.not_eq_true, List.contains_iff_mem]
      intro hm
      have := hmem _ _ _ hm
      omega
    have n0 : (idsR h.length 6 kids.length).contains (some h.length) = false := n1 0 (by omega)
    rw [← hLd]
    simp [okL, h1]
    have m1 : ∀ j, (j < 6 ∨ kids.length + 6 ≤ j) → some (h.length + j) ∉ idsR h.length 6 kids.length := fun j hj hm => by
      have := hmem _ _ _ hm
      omega
    have m0 : some h.length ∉ idsR h.length 6 kids.length := m1 0 (by omega)
    refine ⟨m0, m1 _ (.inr (by omega)), m1 2 (by omega), m1 3 (by omega), m1 4 (by omega), m1 5 (by omega)⟩
  have pl0 : placeOf h.length L h.length = some h.length := by rw [← hLd]; simp [placeOf, placeAt]
  have pl9 : placeOf (h.length + (kids.length + 6)) L h.length = some (h.length + 1) := by rw [← hLd]; simp [placeOf, placeAt]
  have pl2 : placeOf (h.length + 2) L h.length = some (h.length + 2) := by rw [← hLd]; simp [placeOf, placeAt]
  have pl3 : placeOf (h.length + 3) L h.length = some (h.length + 3) := by rw [← hLd]; simp [placeOf, placeAt]
  have pl4 : placeOf (h.length + 4) L h.length = some (h.length + 4) := by rw [← hLd]; simp [placeOf, placeAt]
  have pl5 : placeOf (h.length + 5) L h.length = some (h.length + 5) := by rw [← hLd]; simp [placeOf, placeAt]
  have plk : ∀ i l, kids[i]? = some l → placeOf (h.length + (6 + i)) L h.length = some (h.length + (6 + i)) := by
    intro i l hl
    have hi := (List.getElem?_eq_some_iff.1 hl).1
    have := hcan.place i ⟨.row 1 (intsOf l), by rw [List.append_nil, fam_get, hl]; rfl⟩ (by simpa using hi)
    rw [← hLd]
    unfold placeOf
    simp only [placeAt]
    rw [if_neg (by omega), if_neg (by omega), if_neg (by omega), if_neg (by omega), if_neg (by omega), if_neg (by omega), this]
  have fz0 : fzV H h.length L (.one (.ptr h.length 1 0 0)) = some (.one (.ptr h.length 1 0 0)) := by
    show (fzT _ _ _ _).map V.one = _
    rw [fzT_ptr, if_pos (by omega), pl0]; rfl
  have fz4 : fzV H h.length L (.one (.ptr (h.length + 2) 1 0 0)) = some (.one (.ptr (h.length + 2) 1 0 0)) := by
    show (fzT _ _ _ _).map V.one = _
    rw [fzT_ptr, if_pos (by omega), pl2]; rfl
  have fz9 : fzV H h.length L (.one (.sl (h.length + (kids.length + 6)) 1 kids.length 0 kids.length)) = some (.one (.sl (h.length + 1) 1 kids.length 0 kids.length)) := by
    show (fzT _ _ _ _).map V.one = _
    rw [fzT_sl, if_pos (by omega), pl9]; rfl
  have fs3 : fzT H h.length L (.sl (h.length + 3) 1 kids.length 0 kids.length) = some (.sl (h.length + 3) 1 kids.length 0 kids.length) := by rw [fzT_sl, if_pos (by omega), pl3]; rfl
  have fs4 : fzT H h.length L (.sl (h.length + 4) 1 kids.length 0 kids.length) = some (.sl (h.length + 4) 1 kids.length 0 kids.length) := by rw [fzT_sl, if_pos (by omega), pl4]; rfl
  have fs5 : fzT H h.length L (.sl (h.length + 5) 1 kids.length 0 kids.length) = some (.sl (h.length + 5) 1 kids.length 0 kids.length) := by rw [fzT_sl, if_pos (by omega), pl5]; rfl
  have ob0 : objOf H h.length L (some h.length) = some (some (.row 5 [cf])) := by
    have : mapO (fzT H h.length L) cf = some cf := mapO_id fun l hl => plL_fz (List.all_eq_true.1 hcf l hl)
    simp only [objOf, at0, fzO, mapO, this]
    rfl
  have ob3 : objOf H h.length L (some (h.length + 3)) = some (some (.row 1 (intsOf up))) := by
    simp only [objOf, at3, fzO, mapO_ints]; rfl
  have ob4 : objOf H h.length L (some (h.length + 4)) = some (some (.row 1 (intsOf dp))) := by
    simp only [objOf, at4, fzO, mapO_ints]; rfl
  have ob9 : objOf H h.length L (some (h.length + (kids.length + 6))) = some (some (.row 1 (intsOf was))) := by
    simp only [objOf, wat, fzO, mapO_ints]; rfl
  have hrows := newRows_fam (H := H) (n0 := h.length) (b := h.length) (L := L) (Nat.le_refl _) 6 kids fun i l hl => ⟨plk i l hl, wrow i l hl⟩
  have hnew : ∀ p, newRoot2 H h.length L p [(2, []), (2, []), (2, [2])] (some (h.length + 2)) = some (some (.row 3 [[.sl (h.length + 3) 1 kids.length 0 kids.length, .sl (h.length + 4) 1 kids.length 0 kids.length, .sl (h.length + 5) 1 kids.length 0 kids.length]]) :: some (.row 1 (intsOf up)) :: some (.row 1 (intsOf dp)) :: some (.row 1 (outR h.length 6 kids)) :: fam kids) := by
    intro p
    simp only [newRoot2, at2, newRows2, newCells2, fs3, fs4, fs5, own, newRoot, ob3, ob4, at5, hrows, mapO, List.length_cons, List.length_nil]
    simp
  have hall : kdAll H h.length L T 0 K61 = some (K61.map fun e => (e.1, if e.1 = 9 then .one (.sl (h.length + 1) 1 kids.length 0 kids.length) else tget T e.1), domH h.length kids.length (some (.row 5 [cf])) (some (.row 1 (intsOf was))) up dp kids) := by
    simp only [kdAll, kdNew, hT1, hT9, hT4, fz0, fz4, fz9, hr1, hr9, hr4, newRoot, ob0, ob9, plV_fz p3, plV_fz p35, plV_fz p34, plV_fz p6, plV_fz p67, plV_fz p66, plV_fz p65, plV_fz p8, plV_fz p11, plV_fz p76, plV_fz p75, plV_fz p74, plV_fz p12, plV_fz p7, plV_fz p116, plV_fz p115, plV_fz p114, plV_fz p174, plV_fz p173, plV_fz p172, List.length_cons, List.length_nil, Nat.zero_add, Nat.add_zero, hnew]
    simp [domH, hT1, hT4]
  unfold tidy tidyO
  simp only [hL, hok, if_true, hall, hw, fzH]
  rw [← hH, List.take_left']
  rfl
end Go.Proofs.Ytdkknhpdjcdmfaa.Abs

/- dom.Of: what it hands back. -/
set_option linter.unusedSimpArgs false
set_option linter.unusedVariables false
namespace Go.Proofs.Ytdkknhpdjcdmfaa.Abs
open Go Go.RowKit Go.Proofs

theorem tidy_dom0U {h : Heap} {T : Tmps} {ws : List Nat} {n : Nat} {cf : List Leaf} {up dp : List Int} (hcf : cf.all plL = true)
    (hK : DomK T (.one (.ptr h.length 1 0 0)) .junk (.one (.ptr (h.length + 4) 1 0 0)) .junk K61) (hw : wsOf h.length ws = []) :
    tidy h.length K61 ⟨T, h ++ [some (.row 5 [cf]), some (.row 1 (intsOf up)), some (.row 1 (intsOf dp)), some (.row 1 (List.replicate n [.nils])), some (.row 3 [[.sl (h.length + 1) 1 n 0 n, .sl (h.length + 2) 1 n 0 n, .sl (h.length + 3) 1 n 0 n]])], ws⟩ =
      ⟨K61.map fun e => (e.1, if e.1 = 4 then .one (.ptr (h.length + 2) 1 0 0) else tget T e.1), h ++ domH h.length n (some (.row 5 [cf])) none up dp (List.replicate n []), []⟩ := tidy_dom0 hcf hK hw

def treeV (up dp : List Int) (kids : List (List Int)) : V := .one (.iptr [.isl (intsOf up), .isl (intsOf dp), .isl (listsOf kids)] 0)

def DpNo (n : Nat) (R : Nat → Prop) (dp : List Int) : Prop := ∀ v, v < n → ¬ R v → dp[v]? = some 0
def KidsOK (n : Nat) (R : Nat → Prop) (up : List Int) (kids : List (List Int)) : Prop :=
  ∀ a, a < n → ∃ l, kids[a]? = some l ∧ SrtTo l l.length ∧ l.Nodup ∧ ∀ x, x ∈ l ↔ ∃ v : Nat, x = (v : Int) ∧ R v ∧ v ≠ 0 ∧ nx up v = a

theorem domOf (h : Heap) (f : Fn) (hf : f.Fine) (hn : 0 < f.blocks.length) (hn2 : f.blocks.length ≤ 12) {R : Nat → Prop} {pl : Nat → Nat}
    (D : DomIn f.blocks.length R pl (orderF (f.blocks.map nextB)) (predsF (f.blocks.map nextB))) (hpl : ∀ l, l ∈ predsF (f.blocks.map nextB) → l.length ≤ 100000)
    (hat : ∀ v, R v → (placesF f.blocks.length (orderF (f.blocks.map nextB)))[v]? = some (pl v : Int)) :
    ∃ up dp kids, CX 32 [.agg (encFn f)] h = some (treeV up dp kids, h, []) ∧ Doms f.blocks.length R pl (predsF (f.blocks.map nextB)) up ∧ DepOK f.blocks.length 1000 dp ∧ (∀ v, R v → v ≠ 0 → ∃ x, dp[nx up v]? = some x ∧ dp[v]? = some (x + 1)) ∧ kids.length = f.blocks.length ∧ DpNo f.blocks.length R dp ∧ KidsOK f.blocks.length R up kids := by
  have hb := hf.len
  have e1 := fun h => order h f hf hn
  have e2 := fun h => places h f hf hn
  have e3 := fun h => preds h f hf
  simp [encFn] at e1 e2 e3
  generalize hord : orderF (f.blocks.map nextB) = ord at *
  generalize hprs : predsF (f.blocks.map nextB) = prs at *
  generalize hatg : placesF f.blocks.length ord = at_ at *
  have hal : at_.length = f.blocks.length := by rw [← hatg]; simp
  have hol : 0 < ord.length := by
    have := D.all 0 D.F.zero
    omega
  have dd := dt32
  simp [Try.f32, infoFn, infoRegs, List.lookup] at dd
  have q := qt32
  simp [Try.f32, quietFn, quietRegs] at q
  have f0 := of_fill h f hb (List.replicate f.blocks.length 0) (List.replicate f.blocks.length []) (by simp)
  obtain ⟨up, d1, f1, hD, hd1⟩ := of_rounds h f (List.replicate f.blocks.length 0) (List.replicate f.blocks.length []) (by simp) hb D hpl hol at_ hal hat (List.replicate f.blocks.length 0) ((List.replicate f.blocks.length (-1 : Int)).set 0 0) (by simp) (pinv_first D)
    { jT with v35 := I (f.blocks.length : Nat), v34 := I (f.blocks.length : Nat), v6 := Sl (intsOf ord), v7 := Sl (intsOf at_), v8 := Sl (listsOf prs) } ⟨⟨rfl, rfl, rfl, rfl, rfl, rfl, rfl, rfl, rfl, rfl, rfl, rfl, rfl, rfl, rfl, rfl, rfl, rfl, rfl⟩, rfl, rfl, rfl⟩
  obtain ⟨w35, w34, w6, w67, w66, w65, w8, w11, w76, w75, w74, w12, w7, w116, w115, w114, w174, w173, w172⟩ := d1
  obtain ⟨⟨q35, q34, q6, q67, q66, q65, q8, q11, q76, q75, q74, q12, q7, q116, q115, q114, q174, q173, q172⟩, g6, g7, g8⟩ := hd1
  simp only at q35 q34 q6 q67 q66 q65 q8 q11 q76 q75 q74 q12 q7 q116 q115 q114 q174 q173 q172 g6 g7 g8
  subst g6 g7 g8
  have hul := hD.T.len
  have hmx := D.max
  have ht : ∀ k, k ∈ ord.drop 1 → ∃ q b : Nat, k = (q : Int) ∧ q ≠ 0 ∧ q < f.blocks.length ∧ up[q]? = some (b : Int) ∧ b < f.blocks.length := by
    intro k hk
    obtain ⟨i, hi⟩ := List.getElem?_of_mem hk
    rw [List.getElem?_drop] at hi
    obtain ⟨k0, kR, kp⟩ := D.at_ _ _ hi
    have hkz : k.toNat ≠ 0 := fun e => by rw [e, D.F.pl0] at kp; omega
    have hkn := D.F.low _ kR
    have hkd := (hD.done _ hkn).2 kR
    obtain ⟨g1, g2, g3⟩ := hD.T.link _ hkn hkd hkz
    refine ⟨k.toNat, nx up k.toNat, by omega, hkz, hkn, ?_, g1⟩
    have h1 : up[k.toNat]? = some (lk up k.toNat) := by unfold lk; rw [List.getD, List.getElem?_eq_getElem (by omega)]; rfl
    rw [h1]
    unfold nx
    rw [Int.toNat_of_nonneg hkd]
  have hat1 : ∀ (j : Nat) (k : Int), (ord.drop 1)[j]? = some k → R k.toNat ∧ pl k.toNat = 1 + j := fun j k hk => by
    rw [List.getElem?_drop] at hk
    exact (D.at_ _ _ hk).2
  have hlkn : ∀ v, R v → up[v]? = some ((nx up v : Nat) : Int) := fun v hv => by
    have hvn := D.F.low _ hv
    have hkd := (hD.done _ hvn).2 hv
    have h1 : up[v]? = some (lk up v) := by unfold lk; rw [List.getD, List.getElem?_eq_getElem (by omega)]; rfl
    rw [h1]
    unfold nx
    rw [Int.toNat_of_nonneg hkd]
  have hnd : ∀ (i j : Nat) (k : Int), (ord.drop 1)[i]? = some k → (ord.drop 1)[j]? = some k → i = j := fun i j k h1 h2 => by
    have := (hat1 i k h1).2
    have := (hat1 j k h2).2
    omega
  have hupx : ∀ (j q b : Nat), (ord.drop 1)[j]? = some (q : Int) → up[q]? = some (b : Int) → ∀ i, j ≤ i → (ord.drop 1)[i]? ≠ some (b : Int) := fun j q b h1 h2 i hij h3 => by
    obtain ⟨r1, p1⟩ := hat1 j _ h1
    obtain ⟨r3, p3⟩ := hat1 i _ h3
    rw [Int.toNat_natCast] at r1 p1 r3 p3
    rw [hlkn q r1] at h2
    obtain rfl : nx up q = b := by injection h2 with h2; omega
    have hqn := D.F.low _ r1
    have hq0 : q ≠ 0 := fun e => by rw [e, D.F.pl0] at p1; omega
    have := (hD.T.link _ hqn ((hD.done _ hqn).2 r1) hq0).2.2
    omega
  have hw9 : ∀ was, WasOK h.length f.blocks.length (.one (.sl (h.length + 1) 1 f.blocks.length 0 f.blocks.length)) (some (.row 1 (intsOf was))) := fun was => .inr ⟨rfl, _, rfl⟩
  obtain ⟨dp, kids, d2, f2, hd2, ⟨hdp, hdu, hdz⟩, ⟨hkn, hko⟩, hlow⟩ := of_deep h f _ _ (hw9 up) hb up (ord.drop 1) hul (by simp; omega) ht hnd hupx (List.replicate f.blocks.length 0) (List.replicate f.blocks.length [])
    ⟨by simp, by rw [List.getElem?_replicate, if_pos hn], fun x hx => by have := (List.mem_replicate.1 hx).2; omega⟩ (by simp) (fun l hl => by rw [(List.mem_replicate.1 hl).2]; exact Nat.le_refl _) (fun a l hl => by rw [List.getElem?_replicate] at hl; split at hl <;> cases hl; simp [kidsT]) ⟨w35, w34, Sl (intsOf ord), w67, w66, w65, Sl (listsOf prs), w11, w76, w75, w74, w12, Sl (intsOf at_), w116, w115, w114, w174, w173, w172⟩ ⟨q35, q34, rfl, q67, q66, q65, rfl, q11, q76, q75, q74, q12, rfl, q116, q115, q114, q174, q173, q172⟩
  obtain ⟨y35, y34, y6, y67, y66, y65, y8, y11, y76, y75, y74, y12, y7, y116, y115, y114, y174, y173, y172⟩ := d2
  obtain ⟨z35, z34, z6, z67, z66, z65, z8, z11, z76, z75, z74, z12, z7, z116, z115, z114, z174, z173, z172⟩ := hd2
  simp only at z35 z34 z6 z67 z66 z65 z8 z11 z76 z75 z74 z12 z7 z116 z115 z114 z174 z173 z172
  obtain ⟨kids', d3, f3, hkn', hks⟩ := of_sort h f _ _ (hw9 up) hb up dp kids hkn (hlow.mono (by simp; omega)) ⟨y35, y34, y6, y67, y66, y65, y8, y11, y76, y75, y74, y12, y7, y116, y115, y114, y174, y173, y172⟩ ⟨z35, z34, z6, z67, z66, z65, z8, z11, z76, z75, z74, z12, z7, z116, z115, z114, z174, z173, z172⟩
  have hdp' : DepOK f.blocks.length 1000 dp := ⟨hdp.1, hdp.2.1, fun x hx => by
    have h1 := hdp.2.2 x hx
    have h2 : (ord.drop 1).length ≤ 1000 := by simp; omega
    omega⟩
  have hdx : ∀ v, R v → v ≠ 0 → ∃ x, dp[nx up v]? = some x ∧ dp[v]? = some (x + 1) := fun v hv hv0 => by
    have h1 := D.all v hv
    obtain ⟨y, hy⟩ : ∃ y, ord[pl v]? = some y := ⟨_, List.getElem?_eq_getElem h1⟩
    obtain ⟨y0, yR, yp⟩ := D.at_ _ _ hy
    have hyv : y.toNat = v := D.F.inj _ _ yR hv yp
    have hpv : pl v ≠ 0 := fun e => hv0 (D.F.inj _ _ hv D.F.zero (by rw [e, D.F.pl0]))
    have hyI : y = (v : Int) := by omega
    subst hyI
    refine hdu (pl v - 1) v (nx up v) (by simp; omega) ?_ (hlkn v hv)
    rw [List.getElem?_drop, show 1 + (pl v - 1) = pl v by omega]
    exact hy
  have hno : DpNo f.blocks.length R dp := fun v hv hr => by
    have h1 := hdz v fun j _ h => hr (by have := (hat1 j _ h).1; rwa [Int.toNat_natCast] at this)
    rw [h1, List.getElem?_replicate, if_pos hv]
  have hkk : KidsOK f.blocks.length R up kids' := fun a ha => by
    obtain ⟨l, hl⟩ : ∃ l, kids[a]? = some l := ⟨_, List.getElem?_eq_getElem (by omega)⟩
    obtain ⟨l', g1, g2, g3, _⟩ := hks.2 a l hl
    have hle := hko a l hl
    rw [List.take_length] at hle
    have hndt : (ord.drop 1).Nodup := by
      unfold List.Nodup
      rw [List.pairwise_iff_getElem]
      intro i j hi hj hij e
      have h1 : (ord.drop 1)[i]? = some (ord.drop 1)[i] := List.getElem?_eq_getElem hi
      have h2 : (ord.drop 1)[j]? = some (ord.drop 1)[i] := by rw [e]; exact List.getElem?_eq_getElem hj
      have := hnd i j _ h1 h2
      omega
    refine ⟨l', g1, g3 ha, g2.symm.nodup (by rw [hle]; exact hndt.filter _), fun x => ?_⟩
    rw [g2.mem_iff, hle]
    unfold kidsT
    rw [List.mem_filter, decide_eq_true_iff]
    constructor
    · rintro ⟨h1, h2⟩
      obtain ⟨q, b, rfl, hq0, hqn, hub, hbn⟩ := ht x h1
      obtain ⟨j, hj⟩ := List.getElem?_of_mem h1
      obtain ⟨r1, p1⟩ := hat1 j _ hj
      rw [Int.toNat_natCast] at r1 h2
      refine ⟨q, rfl, r1, hq0, ?_⟩
      rw [hlkn q r1] at h2
      injection h2 with h2
      omega
    · rintro ⟨v, rfl, hr, h0, h1⟩
      refine ⟨?_, by rw [Int.toNat_natCast, hlkn v hr, h1]⟩
      have h2 := D.all v hr
      obtain ⟨y, hy⟩ : ∃ y, ord[pl v]? = some y := ⟨_, List.getElem?_eq_getElem h2⟩
      obtain ⟨y0, yR, yp⟩ := D.at_ _ _ hy
      have hyv : y.toNat = v := D.F.inj _ _ yR hr yp
      have hpv : pl v ≠ 0 := fun e => h0 (D.F.inj _ _ hr D.F.zero (by rw [e, D.F.pl0]))
      have hyI : y = (v : Int) := by omega
      subst hyI
      refine List.mem_of_getElem? (i := pl v - 1) ?_
      rw [List.getElem?_drop, show 1 + (pl v - 1) = pl v by omega]
      exact hy
  refine ⟨up, dp, kids', ?_, hD, hdp', hdx, hkn', hno, hkk⟩
  refine CI_of Try.func32 rfl 0 ?_
  have hk : cfg.keep 32 = 0 := rfl
  have hz : List.replicate f.blocks.length [Leaf.int .i64 0] = intsOf (List.replicate f.blocks.length 0) := by simp [intsOf]
  have hng : negs f.blocks.length 0 = List.replicate f.blocks.length 0 := by simp [negs]
  rw [hng] at f0
  simp [domS, domT, jT, encFn, lpK, lvOf, Try.f32, wasS, -List.drop_one] at f0 f1 f2 f3
  simp (disch := (first | omega | simp (disch := omega) [])) [Try.f32, lvOf, hk, encFn, dd, unOK, apartR, disjoint, cellsApart, room_of, hz, Nat.add_assoc, -getElem?_pos, -tidy_eq, -List.drop_one, -wrapUp_zero]
  rw [tidy_dom0U rfl ?_ ?_]
  rotate_left
  · simp [domK_p, domK_b, domK_s, domK_b2, domK_nil]
  · simp
  have hr0 : (List.replicate f.blocks.length (-1 : Int))[0]? = some (-1) := by rw [List.getElem?_replicate, if_pos hn]
  simp (disch := (first | omega | simp (disch := omega) [])) [f0, wrap_i64, -getElem?_pos, -tidy_eq, -List.drop_one, -wrapUp_zero]
  simp (disch := (first | omega | simp (disch := omega) [])) [domH, q, e1, e2, e3, hn, hr0, hz, intsOf_set, wrap_i64, Nat.add_assoc, -getElem?_pos, -tidy_eq, -List.drop_one, -wrapUp_zero]
  rw [tidy_dom1 (by simp) rfl ?_ ?_]
  rotate_left
  · simp [domK_p, domK_b, domK_s, domK_b2, domK_nil]
  · simp
  simp (disch := (first | omega | simp (disch := omega) [])) [f1, slice_tail _ hol, wrap_i64, -getElem?_pos, -tidy_eq, -List.drop_one, -wrapUp_zero]
  rw [tidy_dom' (by simp) rfl (hw9 up) ?_ ?_]
  rotate_left
  · simp [domK_p, domK_b, domK_s, domK_b2, domK_nil, q35, q34, q6, q67, q66, q65, q8, q11, q76, q75, q74, q12, q7, q116, q115, q114, q174, q173, q172]
  · simp
  simp (disch := (first | omega | simp (disch := omega) [])) [f2, -getElem?_pos, -tidy_eq, -List.drop_one, -wrapUp_zero]
  simp (disch := (first | omega | simp (disch := omega) [])) [domH, hkn, -getElem?_pos, -tidy_eq, -List.drop_one, -wrapUp_zero]
  rw [tidy_domU hkn rfl (hw9 up) ?_ ?_]
  rotate_left
  · simp [domK_p, domK_b, domK_s, domK_b2, domK_nil, z35, z34, z6, z67, z66, z65, z8, z11, z76, z75, z74, z12, z7, z116, z115, z114, z174, z173, z172]
  · simp
  simp (disch := (first | omega | simp (disch := omega) [])) [f3, -getElem?_pos, -tidy_eq, -List.drop_one, -wrapUp_zero]
  have frz : ∀ (x0 x1 x2 x3 x4 : Option AO) (k : Nat), fzRowsL (h ++ (x0 :: x1 :: x2 :: x3 :: x4 :: some (.row 1 (outR h.length 6 kids')) :: fam kids')) h.length [] (k + 1) (outR h.length 6 kids') (treeR (outR h.length 6 kids')) = some (listsOf kids') := by
    intro x0 x1 x2 x3 x4 k
    rw [← rowsL_eq]
    refine fz_outR (Nat.le_refl _) 6 kids' fun i l hl => ?_
    have := row_fam0 kids' hl l.length
    rw [row_at, show 6 + i = i + 6 by omega]
    simp only [row_succ, this, if_true]
  simp [hk, domH, treeV, hul, hdp.1, hkn', fzL_ptr, elemK, frz]
end Go.Proofs.Ytdkknhpdjcdmfaa.Abs
