/- The plain side of the law of NewReg. No condition beside those that each theorem states. -/
import Derived.Test.YtkjiojhkjpbokaaRxPure
import Derived.Test.YtkjiojhkjpbokaaRxFnsB
set_option linter.unusedVariables false
set_option linter.unusedSimpArgs false
namespace Go.Proofs.Ytkjiojhkjpbokaa.Rx
theorem law_NewReg : ∃ k, laws_FnExactNewReg.f k = some true := ⟨20, by kernel_rfl⟩
end Go.Proofs.Ytkjiojhkjpbokaa.Rx
