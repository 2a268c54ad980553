/- Proved: which loops a function has, which are within which, how deep a block is, and from where each is entered, is what the document tells, for every input. No condition. -/
import Derived.Test.YtdkknhpdjcdmfaaGreatRows
import Derived.Test.YtdkknhpdjcdmfaaGreatJT48
import Derived.OpenShut
import Derived.ShutString
import Derived.ChangeOld
import Derived.SizedLaws
import Derived.WalkKit
import Derived.ProofKit
namespace Go.Proofs.YtdkknhpdjcdmfaaGreat.loopsTells
open Go.ChangeShapes Go.WideShapes Go.ChangeAt Go.RowKit Go.Proofs.YtdkknhpdjcdmfaaGreat.Abs
set_option linter.unusedVariables false
theorem own : ownKnob Tryz.prog.godebug = none := by kernel_rfl
theorem laidOut : laidOutB Tryz.prog = true := by kernel_rfl
theorem mixed : Tryz.prog.follows .mixedOrders = true := by kernel_rfl
theorem law (vs : List V) (h : TypedVs [tFn, .int .i64] vs) : ∃ (K : Cfg) (k : Nat) (h : Heap) (ws : List Nat), absCall Tryz.prog K k 8 vs [] = some (.one (.bool true), h, ws) := by
  simp only [TypedVs] at h
  obtain ⟨v, _, rfl, h1, w, _, rfl, h2, rfl⟩ := h
  obtain ⟨f, rfl, hf⟩ := typed_fn h1
  obtain ⟨ls, rfl, h3⟩ := h2
  obtain ⟨n, e⟩ := typed_int h3
  cases e
  obtain ⟨k, hk⟩ := CI_call (loopsTells [] f hf n)
  exact ⟨cfg, k, _, _, hk⟩
set_option maxRecDepth 100000 in
theorem lifted (os : Os) (started : os.Started) (H : Type) (enc : TypeId × Value → H) :
    ReturnsInHanded {} Tryz.checked os 8 .any (Rows.loopsTellsSpec.pre6 enc Tryz.prog Tryz.f8 Rows.loopsTellsRow.domain false) (Rows.loopsTellsSpec.post enc Tryz.prog Tryz.f8 false true false false) := by
  refine law_lifted (C := Tryz.checked) (tys := [tFn, .int .i64]) (rt := 4) own started (by kernel_rfl) Tryz.func8
    (ChangeSpec.witness6 (enc := enc) (C := Tryz.checked) false ⟨#[], #[.agg #[.string ⟨#[]⟩, .slice none 0 0, .int .i64 0, .slice none 0 0, .int .i64 0], .int .i64 0], []⟩ 8 (by kernel_rfl) (by kernel_rfl) (by kernel_rfl) (by kernel_rfl))
    mixed laidOut rfl (fun ds h => ?_) (by kernel_rfl) (by kernel_rfl) (by kernel_rfl) (by kernel_rfl) law
  match ds, h with
  | [a, b], _ => rfl
theorem over : Rows.loopsTellsRow.holds Tryz.pinned (OpenSpec.ofChange Rows.loopsTellsSpec) :=
  OpenClaim.holds_of_wide 8 Tryz.f8 rfl rfl rfl rfl rfl rfl rfl ⟨rfl, rfl, rfl, rfl, rfl⟩ rfl rfl rfl rfl rfl (by kernel_rfl) Tryz.func8 (by kernel_rfl)
    (of_decide_eq_true (by kernel_rfl)) (by unfold Func.isWrapper; first | (rw [if_pos (by decide +kernel)]; kernel_rfl) | (rw [if_neg (by decide +kernel)]; exact ⟨rfl, rfl⟩))
    (fun os started H enc _ => lifted os started H enc)
theorem proved : Rows.LoopsTellsSaid := over
end Go.Proofs.YtdkknhpdjcdmfaaGreat.loopsTells
#print axioms Go.Proofs.YtdkknhpdjcdmfaaGreat.loopsTells.proved
