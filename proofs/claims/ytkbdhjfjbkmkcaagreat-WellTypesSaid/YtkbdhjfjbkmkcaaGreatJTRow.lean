/- Proved: which function has a name, and of which type each value of a function is, whose values are made once, is what the chapter says, for every input. No condition. -/
import Derived.Test.YtkbdhjfjbkmkcaaGreatRows
import Derived.Test.YtkbdhjfjbkmkcaaGreatJT53
import Derived.OpenShut
import Derived.ShutString
import Derived.ChangeOld
import Derived.SizedLaws
import Derived.WalkKit
import Derived.ProofKit
namespace Go.Proofs.YtkbdhjfjbkmkcaaGreat.wellTypes
open Go.ChangeShapes Go.WideShapes Go.ChangeAt Go.RowKit Go.Proofs.YtkbdhjfjbkmkcaaGreat.Abs
set_option linter.unusedVariables false
theorem own : ownKnob Tryz.prog.godebug = none := by kernel_rfl
theorem laidOut : laidOutB Tryz.prog = true := by kernel_rfl
theorem mixed : Tryz.prog.follows .mixedOrders = true := by kernel_rfl
theorem int_of {v : V} (h : TypedV (.int .i64) v) : ∃ n : Int, v = I n := by
  obtain ⟨l, rfl, n, e, hn⟩ := h
  cases e
  exact ⟨n, rfl⟩
theorem str_of {v : V} (h : TypedV .str v) : ∃ s : List UInt8, v = .one (.str s) := by
  obtain ⟨l, rfl, n, e, hn⟩ := h
  cases e
  exact ⟨n, rfl⟩
theorem law (vs : List V) (h : TypedVs [tProg, .str, .int .i64] vs) : ∃ (K : Cfg) (k : Nat) (h : Heap) (ws : List Nat), CfgOK Tryz.prog K ∧ absCall Tryz.prog K k 4 vs [] = some (.one (.bool true), h, ws) := by
  simp only [TypedVs] at h
  obtain ⟨v, _, rfl, h1, a, _, rfl, h2, b, _, rfl, h3, rfl⟩ := h
  obtain ⟨p, rfl, hp⟩ := typed_prog h1
  obtain ⟨a, rfl⟩ := str_of h2
  obtain ⟨b, rfl⟩ := int_of h3
  obtain ⟨k, hk⟩ := CI_call (wellTypes [] p hp wk_is a b)
  exact ⟨cfg, k, _, _, cfg_ok, hk⟩
set_option maxRecDepth 100000 in
theorem lifted (os : Os) (started : os.Started) (H : Type) (enc : TypeId × Value → H) :
    ReturnsInHanded {} Tryz.checked os 4 .any (Rows.wellTypesSpec.pre6 enc Tryz.prog Tryz.f4 Rows.wellTypesRow.domain false) (Rows.wellTypesSpec.post enc Tryz.prog Tryz.f4 false true false false) := by
  refine law_lifted (C := Tryz.checked) (tys := [tProg, .str, .int .i64]) (rt := 4) own started (by kernel_rfl) Tryz.func4
    (ChangeSpec.witness6 (enc := enc) (C := Tryz.checked) false ⟨#[], #[.agg #[.slice none 0 0], .string ⟨#[]⟩, .int .i64 0], []⟩ 8 (by kernel_rfl) (by kernel_rfl) (by kernel_rfl) (by kernel_rfl))
    mixed laidOut rfl (fun ds h => ?_) (by kernel_rfl) (by kernel_rfl) (by kernel_rfl) (by kernel_rfl) law
  match ds, h with
  | [a, b, c], _ => rfl
theorem over : Rows.wellTypesRow.holds Tryz.pinned (OpenSpec.ofChange Rows.wellTypesSpec) :=
  OpenClaim.holds_of_wide 4 Tryz.f4 rfl rfl rfl rfl rfl rfl rfl ⟨rfl, rfl, rfl, rfl, rfl⟩ rfl rfl rfl rfl rfl (by kernel_rfl) Tryz.func4 (by kernel_rfl)
    (of_decide_eq_true (by kernel_rfl)) (by unfold Func.isWrapper; first | (rw [if_pos (by decide +kernel)]; kernel_rfl) | (rw [if_neg (by decide +kernel)]; exact ⟨rfl, rfl⟩))
    (fun os started H enc _ => lifted os started H enc)
theorem proved : Rows.WellTypesSaid := over
end Go.Proofs.YtkbdhjfjbkmkcaaGreat.wellTypes
#print axioms Go.Proofs.YtkbdhjfjbkmkcaaGreat.wellTypes.proved
