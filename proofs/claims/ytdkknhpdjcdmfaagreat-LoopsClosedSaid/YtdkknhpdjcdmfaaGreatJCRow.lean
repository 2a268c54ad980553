/- Proved: each edge from without a loop into it, from a block that is reached, goes to its head, and the head stands ahead of all its blocks that are reached, for every input. No condition. -/
import Derived.Test.YtdkknhpdjcdmfaaGreatRows
import Derived.Test.YtdkknhpdjcdmfaaGreatJC48
import Derived.OpenShut
import Derived.ShutString
import Derived.ChangeOld
import Derived.SizedLaws
import Derived.WalkKit
import Derived.ProofKit
namespace Go.Proofs.YtdkknhpdjcdmfaaGreat.loopsClosed
open Go.ChangeShapes Go.WideShapes Go.ChangeAt Go.RowKit Go.Proofs.YtdkknhpdjcdmfaaGreat.Abs
set_option linter.unusedVariables false
theorem own : ownKnob Tryz.prog.godebug = none := by kernel_rfl
theorem laidOut : laidOutB Tryz.prog = true := by kernel_rfl
theorem mixed : Tryz.prog.follows .mixedOrders = true := by kernel_rfl
theorem law (vs : List V) (h : TypedVs [tFn] vs) : ∃ (K : Cfg) (k : Nat) (h : Heap) (ws : List Nat), absCall Tryz.prog K k 9 vs [] = some (.one (.bool true), h, ws) := by
  simp only [TypedVs] at h
  obtain ⟨v, _, rfl, h1, rfl⟩ := h
  obtain ⟨f, rfl, hf⟩ := typed_fn h1
  obtain ⟨k, hk⟩ := CI_call (loopsClosed [] f hf)
  exact ⟨cfg, k, _, _, hk⟩
set_option maxRecDepth 100000 in
theorem lifted (os : Os) (started : os.Started) (H : Type) (enc : TypeId × Value → H) :
    ReturnsInHanded {} Tryz.checked os 9 .any (Rows.loopsClosedSpec.pre6 enc Tryz.prog Tryz.f9 Rows.loopsClosedRow.domain false) (Rows.loopsClosedSpec.post enc Tryz.prog Tryz.f9 false true false false) := by
  refine law_lifted (C := Tryz.checked) (tys := [tFn]) (rt := 4) own started (by kernel_rfl) Tryz.func9
    (ChangeSpec.witness6 (enc := enc) (C := Tryz.checked) false ⟨#[], #[.agg #[.string ⟨#[]⟩, .slice none 0 0, .int .i64 0, .slice none 0 0, .int .i64 0]], []⟩ 8 (by kernel_rfl) (by kernel_rfl) (by kernel_rfl) (by kernel_rfl))
    mixed laidOut rfl (fun ds h => ?_) (by kernel_rfl) (by kernel_rfl) (by kernel_rfl) (by kernel_rfl) law
  match ds, h with
  | [a], _ => rfl
theorem over : Rows.loopsClosedRow.holds Tryz.pinned (OpenSpec.ofChange Rows.loopsClosedSpec) :=
  OpenClaim.holds_of_wide 9 Tryz.f9 rfl rfl rfl rfl rfl rfl rfl ⟨rfl, rfl, rfl, rfl, rfl⟩ rfl rfl rfl rfl rfl (by kernel_rfl) Tryz.func9 (by kernel_rfl)
    (of_decide_eq_true (by kernel_rfl)) (by unfold Func.isWrapper; first | (rw [if_pos (by decide +kernel)]; kernel_rfl) | (rw [if_neg (by decide +kernel)]; exact ⟨rfl, rfl⟩))
    (fun os started H enc _ => lifted os started H enc)
theorem proved : Rows.LoopsClosedSaid := over
end Go.Proofs.YtdkknhpdjcdmfaaGreat.loopsClosed
#print axioms Go.Proofs.YtdkknhpdjcdmfaaGreat.loopsClosed.proved
