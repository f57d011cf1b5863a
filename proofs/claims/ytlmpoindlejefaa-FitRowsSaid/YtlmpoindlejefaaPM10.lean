/- The reference's numbers: what is done with them. -/
import Derived.Test.YtlmpoindlejefaaPM9
set_option linter.unusedVariables false
set_option linter.unusedSimpArgs false
namespace Go.Proofs.Ytlmpoindlejefaa.E
open Go Go.RowKit
theorem int_over (n : Int) : (Rat.divInt n 1).num = n ∧ (Rat.divInt n 1).den = 1 := by
  have h1 := over_num n 1 (by decide)
  have h2 := over_den n 1 (by decide)
  rw [Nat.gcd_one_right] at h1 h2
  exact ⟨by simpa using h1, by simpa using h2⟩
theorem den_len {s : Nat} {x : Rat} (h : Sz s x) : (x.den : Int).natAbs < 2 ^ s := by simpa using h.2
section
variable {a b : ref01_Q} {x y : Rat} {Q : ref01_Q → Prop}
/-- A number as it is told. -/
def toldR (x : Rat) : api_Rat × Bool := if -1000000000000 ≤ x.num ∧ x.num ≤ 1000000000000 ∧ x.den ≤ 1000000000000 then (⟨x.num, x.den⟩, true) else (⟨0, 0⟩, false)
end
end Go.Proofs.Ytlmpoindlejefaa.E
