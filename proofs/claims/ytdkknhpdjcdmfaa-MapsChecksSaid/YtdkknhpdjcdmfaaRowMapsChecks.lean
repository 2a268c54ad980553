/- Proved: whether any maps may be, what is wrong with them first, and what is told of a safepoint, is what the document tells, for every input. No condition. -/
import Derived.Test.YtdkknhpdjcdmfaaRows
import Derived.Test.YtdkknhpdjcdmfaaM9
import Derived.OpenShut
import Derived.ShutString
import Derived.ChangeOld
import Derived.SizedLaws
import Derived.WalkKit
import Derived.ProofKit
namespace Go.Proofs.Ytdkknhpdjcdmfaa.mapsChecks
open Go.ChangeShapes Go.WideShapes Go.ChangeAt Go.RowKit Go.Proofs.Ytdkknhpdjcdmfaa.Abs
set_option linter.unusedVariables false
theorem own : ownKnob Try.prog.godebug = none := by kernel_rfl
theorem laidOut : laidOutB Try.prog = true := by kernel_rfl
theorem mixed : Try.prog.follows .mixedOrders = true := by kernel_rfl
theorem law (vs : List V) (h : TypedVs [tMaps, .int .i64] vs) : ∃ (K : Cfg) (k : Nat) (h : Heap) (ws : List Nat), absCall Try.prog K k 5 vs [] = some (.one (.bool true), h, ws) := by
  simp only [TypedVs] at h
  obtain ⟨v, _, rfl, h1, w, _, rfl, h2, rfl⟩ := h
  obtain ⟨m, rfl, hm⟩ := typed_maps h1
  obtain ⟨l, rfl, h3⟩ := h2
  simp only [Typed] at h3
  obtain ⟨n, e, _⟩ := h3
  cases e
  obtain ⟨k, hk⟩ := CI_call (mapsChecks [] m hm n)
  exact ⟨cfg, k, _, _, hk⟩
set_option maxRecDepth 100000 in
theorem lifted (os : Os) (started : os.Started) (H : Type) (enc : TypeId × Value → H) :
    ReturnsInHanded {} Try.checked os 5 .any (Rows.mapsChecksSpec.pre6 enc Try.prog Try.f5 Rows.mapsChecksRow.domain false) (Rows.mapsChecksSpec.post enc Try.prog Try.f5 false true false false) := by
  refine law_lifted (C := Try.checked) (tys := [tMaps, .int .i64]) (rt := 4) own started (by kernel_rfl) Try.func5
    (ChangeSpec.witness6 (enc := enc) (C := Try.checked) false ⟨#[], #[.agg #[.slice none 0 0, .slice none 0 0], .int .i64 0], []⟩ 8 (by kernel_rfl) (by kernel_rfl) (by kernel_rfl) (by kernel_rfl))
    mixed laidOut rfl (fun ds h => ?_) (by kernel_rfl) (by kernel_rfl) (by kernel_rfl) (by kernel_rfl) law
  match ds, h with
  | [a, b], _ => rfl
theorem over : Rows.mapsChecksRow.holds Try.pinned (OpenSpec.ofChange Rows.mapsChecksSpec) :=
  OpenClaim.holds_of_wide 5 Try.f5 rfl rfl rfl rfl rfl rfl rfl ⟨rfl, rfl, rfl, rfl, rfl⟩ rfl rfl rfl rfl rfl (by kernel_rfl) Try.func5 (by kernel_rfl)
    (of_decide_eq_true (by kernel_rfl)) (by unfold Func.isWrapper; first | (rw [if_pos (by decide +kernel)]; kernel_rfl) | (rw [if_neg (by decide +kernel)]; exact ⟨rfl, rfl⟩))
    (fun os started H enc _ => lifted os started H enc)
theorem proved : Rows.MapsChecksSaid := over
end Go.Proofs.Ytdkknhpdjcdmfaa.mapsChecks
#print axioms Go.Proofs.Ytdkknhpdjcdmfaa.mapsChecks.proved
