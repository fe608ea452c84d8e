/- For every list of numbers and every share, the law of the flow at a share answers true, and its arguments read as they did. No conditions. -/
import Derived.Test.YthdbngkbjhpnfaaAe
import Derived.Test.YthdbngkbjhpnfaaVg
import Derived.Test.YthdbngkbjhpnfaaRows
import Derived.ProofKit
set_option linter.unusedVariables false
set_option linter.unusedSimpArgs false
set_option linter.unnecessarySimpa false
namespace Go.Proofs.Ythdbngkbjhpnfaa
open Go.ChangeShapes Go.WideShapes Go.ChangeAt Go.RowKit

theorem own1 : ownKnob Try.prog.godebug = none := by kernel_rfl

set_option maxRecDepth 100000 in
theorem lifted1 (os : Os) (started : os.Started) (H : Type) (enc : TypeId × Value → H) :
    ReturnsInHanded {} Try.checked os 3 .any (Rows.fnExactFlowAtShareSpec.pre6 enc Try.prog Try.f3 Rows.fnExactFlowAtShareRow.domain false) (Rows.fnExactFlowAtShareSpec.post enc Try.prog Try.f3 false true false false) := by
  refine returnsInHanded_of_change (C := Try.checked) own1 started (by kernel_rfl) Try.func3
    (ChangeSpec.witness6 (enc := enc) (C := Try.checked) false ⟨#[], #[.slice none 0 0, .float .f32 0], []⟩ 8 (by kernel_rfl) (by kernel_rfl) (by kernel_rfl) (by kernel_rfl)) ?_
  intro W base args ds gs before hval hW _ _
  exact V.law_contract (P := Try.prog) (by kernel_rfl) (by kernel_rfl) (by kernel_rfl) [(false, .sl (.flt .f32)), (false, .flt .f32)] Try.func3 (by decide) rfl (by kernel_rfl) (by decide) rfl rfl rfl
    (fun ds hd => by
      match ds, hd with
      | [d1, d2], _ => exact ⟨rfl, rfl, rfl⟩)
    (fun xs hx => R.c_FnExactFlowAtShare xs.1 xs.2.1 hx.1.1) hval hW

theorem exactFlowAtShare : Rows.FnExactFlowAtShareSaid :=
  OpenClaim.holds_of_wide 3 Try.f3 rfl rfl rfl rfl rfl rfl rfl ⟨rfl, rfl, rfl, rfl, rfl⟩ rfl rfl rfl rfl rfl (by kernel_rfl) Try.func3 (by kernel_rfl)
    (of_decide_eq_true (by kernel_rfl)) (by unfold Func.isWrapper; first | (rw [if_pos (by decide +kernel)]; kernel_rfl) | (rw [if_neg (by decide +kernel)]; exact ⟨rfl, rfl⟩))
    (fun os started H enc _ => lifted1 os started H enc)
#print axioms exactFlowAtShare
end Go.Proofs.Ythdbngkbjhpnfaa
