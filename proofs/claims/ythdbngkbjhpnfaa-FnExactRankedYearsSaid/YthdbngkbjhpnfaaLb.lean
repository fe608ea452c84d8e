/- For every list of numbers, the law of the ranked years answers true, and its argument reads as it did. No conditions. -/
import Derived.Test.YthdbngkbjhpnfaaAf
import Derived.Test.YthdbngkbjhpnfaaVg
import Derived.Test.YthdbngkbjhpnfaaRows
import Derived.ProofKit
set_option linter.unusedVariables false
set_option linter.unusedSimpArgs false
set_option linter.unnecessarySimpa false
namespace Go.Proofs.Ythdbngkbjhpnfaa
open Go.ChangeShapes Go.WideShapes Go.ChangeAt Go.RowKit

theorem own_exactRankedYears : ownKnob Try.prog.godebug = none := by kernel_rfl

set_option maxRecDepth 100000 in
theorem lifted_exactRankedYears (os : Os) (started : os.Started) (H : Type) (enc : TypeId × Value → H) :
    ReturnsInHanded {} Try.checked os 4 .any (Rows.fnExactRankedYearsSpec.pre6 enc Try.prog Try.f4 Rows.fnExactRankedYearsRow.domain false) (Rows.fnExactRankedYearsSpec.post enc Try.prog Try.f4 false true false false) := by
  refine returnsInHanded_of_change (C := Try.checked) own_exactRankedYears started (by kernel_rfl) Try.func4
    (ChangeSpec.witness6 (enc := enc) (C := Try.checked) false ⟨#[], #[.slice none 0 0], []⟩ 8 (by kernel_rfl) (by kernel_rfl) (by kernel_rfl) (by kernel_rfl)) ?_
  intro W base args ds gs before hval hW _ _
  exact V.law_contract (P := Try.prog) (by kernel_rfl) (by kernel_rfl) (by kernel_rfl) [(false, .sl (.flt .f32))] Try.func4 (by decide) rfl (by kernel_rfl) (by decide) rfl rfl rfl
    (fun ds hd => by
      match ds, hd with
      | [d0], _ => exact ⟨rfl, rfl, rfl⟩)
    (fun xs hx => R.c_FnExactRankedYears xs.1 hx.1.1) hval hW

theorem exactRankedYears : Rows.FnExactRankedYearsSaid :=
  OpenClaim.holds_of_wide 4 Try.f4 rfl rfl rfl rfl rfl rfl rfl ⟨rfl, rfl, rfl, rfl, rfl⟩ rfl rfl rfl rfl rfl (by kernel_rfl) Try.func4 (by kernel_rfl)
    (of_decide_eq_true (by kernel_rfl)) (by unfold Func.isWrapper; first | (rw [if_pos (by decide +kernel)]; kernel_rfl) | (rw [if_neg (by decide +kernel)]; exact ⟨rfl, rfl⟩))
    (fun os started H enc _ => lifted_exactRankedYears os started H enc)
#print axioms exactRankedYears
end Go.Proofs.Ythdbngkbjhpnfaa
