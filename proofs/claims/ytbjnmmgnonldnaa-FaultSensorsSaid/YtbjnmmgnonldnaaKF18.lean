/- Joined. -/
import Derived.Test.YtbjnmmgnonldnaaKF16
set_option linter.unusedVariables false
set_option linter.unusedSimpArgs false
namespace Go.Proofs.Ytbjnmmgnonldnaa.E
open Go Go.RowKit
namespace W
variable {α β S R A:Type}
end W
section
variable {E E':Nat->List Nat} {n N:Nat} {φ ψ:Nat->Nat} {row col row' col':Nat->Option Nat}
open Classical in
open Classical in
end
section
variable {L:List (List Int)} {S:Nat->Bool} {C:Nat}
end
end Go.Proofs.Ytbjnmmgnonldnaa.E
namespace Go.Proofs.Ytbjnmmgnonldnaa.E
open Go Go.RowKit
section
variable {L:List (List Int)} {C:Nat}
open Classical in
section
variable {row col:Nat->Option Nat} {j:Nat}
open Classical in
end
end
end Go.Proofs.Ytbjnmmgnonldnaa.E
namespace Go.Proofs.Ytbjnmmgnonldnaa.E
open Go Go.RowKit
end Go.Proofs.Ytbjnmmgnonldnaa.E
