/- Proved: to stand ahead is an order, of those that stand ahead of one the one stands ahead of the other, and the first block stands ahead of all that are reached, for every input. No condition. -/
import Derived.Test.YtdkknhpdjcdmfaaRows
import Derived.Test.YtdkknhpdjcdmfaaJD47
import Derived.Test.YtdkknhpdjcdmfaaJD49
import Derived.OpenShut
import Derived.ShutString
import Derived.ChangeOld
import Derived.SizedLaws
import Derived.WalkKit
import Derived.ProofKit
namespace Go.Proofs.Ytdkknhpdjcdmfaa.domOrders
open Go.ChangeShapes Go.WideShapes Go.ChangeAt Go.RowKit Go.Proofs.Ytdkknhpdjcdmfaa.Abs
set_option linter.unusedVariables false
theorem own : ownKnob Try.prog.godebug = none := by kernel_rfl
theorem laidOut : laidOutB Try.prog = true := by kernel_rfl
theorem mixed : Try.prog.follows .mixedOrders = true := by kernel_rfl
theorem u8_of {v : V} (h : TypedV (.int .u8) v) : ∃ n : Int, v = .one (.int .u8 n) ∧ 0 ≤ n ∧ n < 256 := by
  obtain ⟨l, rfl, n, e, hn⟩ := h
  cases e
  refine ⟨n, rfl, ?_⟩
  simp [Lit.wf, IntKind.min, IntKind.max, IntKind.signed, IntKind.bits] at hn
  omega
theorem law (vs : List V) (h : TypedVs [tFn, .int .u8, .int .u8, .int .u8] vs) : ∃ (K : Cfg) (k : Nat) (h : Heap) (ws : List Nat), CfgOK Try.prog K ∧ absCall Try.prog K k 9 vs [] = some (.one (.bool true), h, ws) := by
  simp only [TypedVs] at h
  obtain ⟨v, _, rfl, h1, a, _, rfl, h2, b, _, rfl, h3, c, _, rfl, h4, rfl⟩ := h
  obtain ⟨f, rfl, hf⟩ := typed_fn h1
  obtain ⟨a, rfl, ha⟩ := u8_of h2
  obtain ⟨b, rfl, hb⟩ := u8_of h3
  obtain ⟨c, rfl, hc⟩ := u8_of h4
  obtain ⟨k, hk⟩ := CI_call (domOrders works09 [] f hf a b c ha hb hc)
  exact ⟨cfg, k, _, _, cfg_ok, hk⟩
set_option maxRecDepth 100000 in
theorem lifted (os : Os) (started : os.Started) (H : Type) (enc : TypeId × Value → H) :
    ReturnsInHanded {} Try.checked os 9 .any (Rows.domOrdersSpec.pre6 enc Try.prog Try.f9 Rows.domOrdersRow.domain false) (Rows.domOrdersSpec.post enc Try.prog Try.f9 false true false false) := by
  refine law_lifted (C := Try.checked) (tys := [tFn, .int .u8, .int .u8, .int .u8]) (rt := 4) own started (by kernel_rfl) Try.func9
    (ChangeSpec.witness6 (enc := enc) (C := Try.checked) false ⟨#[], #[.agg #[.string ⟨#[]⟩, .slice none 0 0, .int .i64 0, .slice none 0 0, .int .i64 0], .int .u8 0, .int .u8 0, .int .u8 0], []⟩ 8 (by kernel_rfl) (by kernel_rfl) (by kernel_rfl) (by kernel_rfl))
    mixed laidOut rfl (fun ds h => ?_) (by kernel_rfl) (by kernel_rfl) (by kernel_rfl) (by kernel_rfl) law
  match ds, h with
  | [a, b, c, d], _ => rfl
theorem over : Rows.domOrdersRow.holds Try.pinned (OpenSpec.ofChange Rows.domOrdersSpec) :=
  OpenClaim.holds_of_wide 9 Try.f9 rfl rfl rfl rfl rfl rfl rfl ⟨rfl, rfl, rfl, rfl, rfl⟩ rfl rfl rfl rfl rfl (by kernel_rfl) Try.func9 (by kernel_rfl)
    (of_decide_eq_true (by kernel_rfl)) (by unfold Func.isWrapper; first | (rw [if_pos (by decide +kernel)]; kernel_rfl) | (rw [if_neg (by decide +kernel)]; exact ⟨rfl, rfl⟩))
    (fun os started H enc _ => lifted os started H enc)
theorem proved : Rows.DomOrdersSaid := over
end Go.Proofs.Ytdkknhpdjcdmfaa.domOrders
#print axioms Go.Proofs.Ytdkknhpdjcdmfaa.domOrders.proved
