/- The reference: rows brought to the reduced form, systems solved. -/
import Derived.Test.YtlmpoindlejefaaBM25
set_option linter.unusedVariables false
set_option linter.unusedSimpArgs false
namespace Go.Proofs.Ytlmpoindlejefaa.E
open Go Go.RowKit
section
variable {r c:Nat} {M:Nat->Nat->Rat} {Q:List (List zAP)×List Int->Prop}
end
end Go.Proofs.Ytlmpoindlejefaa.E
