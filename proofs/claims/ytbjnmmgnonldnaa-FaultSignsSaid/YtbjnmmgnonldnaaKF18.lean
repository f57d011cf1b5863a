/- Joined. -/
import Derived.Test.YtbjnmmgnonldnaaKF16
set_option linter.unusedVariables false
set_option linter.unusedSimpArgs false
namespace Go.Proofs.Ytbjnmmgnonldnaa.E
open Go Go.RowKit
namespace W
variable {α β S R A:Type}
end W
section
variable {E E':Nat->List Nat} {n N:Nat} {φ ψ:Nat->Nat} {row col row' col':Nat->Option Nat}
open Classical in
open Classical in
end
section
variable {L:List (List Int)} {S:Nat->Bool} {C:Nat}
end
end Go.Proofs.Ytbjnmmgnonldnaa.E
namespace Go.Proofs.Ytbjnmmgnonldnaa.E
open Go Go.RowKit
section
variable {L:List (List Int)} {C:Nat}
open Classical in
section
variable {row col:Nat->Option Nat} {j:Nat}
open Classical in
end
end
end Go.Proofs.Ytbjnmmgnonldnaa.E
namespace Go.Proofs.Ytbjnmmgnonldnaa.E
open Go Go.RowKit
def ci (l:List Nat):List Int:=l.map fun (i:Nat)=>(i:Int)
theorem ci_len {l:List Nat} :(ci l).length=l.length:=by unfold ci;rw [List.length_map]
theorem se_sub_all {n:Nat} {c:List Int} (hc:Se n c):c.Sublist ((List.range n).map fun (i:Nat)=>(i:Int)):=sub_of_subset hc.so (Se.all n).so fun x hx=>by
 have:=hc.lt x hx
 exact List.mem_map.2 ⟨x.toNat,List.mem_range.2 (by omega),by omega⟩
end Go.Proofs.Ytbjnmmgnonldnaa.E
