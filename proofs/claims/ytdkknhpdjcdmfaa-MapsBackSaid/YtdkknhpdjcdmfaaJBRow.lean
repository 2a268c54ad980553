/- Proved: maps that may be are read, as they are written, as what they were; what is read of any bytes may be, and was written in just that way; what is wrong stands within the bytes, for every input. No condition. -/
import Derived.Test.YtdkknhpdjcdmfaaRows
import Derived.Test.YtdkknhpdjcdmfaaJB41
import Derived.OpenShut
import Derived.ShutString
import Derived.ChangeOld
import Derived.SizedLaws
import Derived.WalkKit
import Derived.ProofKit
namespace Go.Proofs.Ytdkknhpdjcdmfaa.mapsBack
open Go.ChangeShapes Go.WideShapes Go.ChangeAt Go.RowKit Go.Proofs.Ytdkknhpdjcdmfaa.Abs
set_option linter.unusedVariables false
theorem own : ownKnob Try.prog.godebug = none := by kernel_rfl
theorem laidOut : laidOutB Try.prog = true := by kernel_rfl
theorem mixed : Try.prog.follows .mixedOrders = true := by kernel_rfl
theorem law (vs : List V) (h : TypedVs [tMaps, .slice (.int .u8)] vs) : ∃ (K : Cfg) (k : Nat) (h : Heap) (ws : List Nat), absCall Try.prog K k 6 vs [] = some (.one (.bool true), h, ws) := by
  simp only [TypedVs] at h
  obtain ⟨v, _, rfl, h1, w, _, rfl, h2, rfl⟩ := h
  obtain ⟨m, rfl, hm⟩ := typed_maps h1
  obtain ⟨ls, rfl, h3⟩ := h2
  obtain ⟨b, e, hb⟩ := typed_bytes h3
  cases e
  obtain ⟨k, hk⟩ := CI_call (mapsBack [] m hm b hb)
  exact ⟨cfg, k, _, _, hk⟩
set_option maxRecDepth 100000 in
theorem lifted (os : Os) (started : os.Started) (H : Type) (enc : TypeId × Value → H) :
    ReturnsInHanded {} Try.checked os 6 .any (Rows.mapsBackSpec.pre6 enc Try.prog Try.f6 Rows.mapsBackRow.domain false) (Rows.mapsBackSpec.post enc Try.prog Try.f6 false true false false) := by
  refine law_lifted (C := Try.checked) (tys := [tMaps, .slice (.int .u8)]) (rt := 4) own started (by kernel_rfl) Try.func6
    (ChangeSpec.witness6 (enc := enc) (C := Try.checked) false ⟨#[], #[.agg #[.slice none 0 0, .slice none 0 0], .slice none 0 0], []⟩ 8 (by kernel_rfl) (by kernel_rfl) (by kernel_rfl) (by kernel_rfl))
    mixed laidOut rfl (fun ds h => ?_) (by kernel_rfl) (by kernel_rfl) (by kernel_rfl) (by kernel_rfl) law
  match ds, h with
  | [a, b], _ => rfl
theorem over : Rows.mapsBackRow.holds Try.pinned (OpenSpec.ofChange Rows.mapsBackSpec) :=
  OpenClaim.holds_of_wide 6 Try.f6 rfl rfl rfl rfl rfl rfl rfl ⟨rfl, rfl, rfl, rfl, rfl⟩ rfl rfl rfl rfl rfl (by kernel_rfl) Try.func6 (by kernel_rfl)
    (of_decide_eq_true (by kernel_rfl)) (by unfold Func.isWrapper; first | (rw [if_pos (by decide +kernel)]; kernel_rfl) | (rw [if_neg (by decide +kernel)]; exact ⟨rfl, rfl⟩))
    (fun os started H enc _ => lifted os started H enc)
theorem proved : Rows.MapsBackSaid := over
end Go.Proofs.Ytdkknhpdjcdmfaa.mapsBack
#print axioms Go.Proofs.Ytdkknhpdjcdmfaa.mapsBack.proved
