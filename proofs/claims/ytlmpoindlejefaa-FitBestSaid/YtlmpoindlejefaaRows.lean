/-
  No cell of these rows narrows 'for every input' (looked for: loops, veiled, ifaces, maps, wideKeys, modest, calm, conditions, laid).
  DERIVED. THE GIVEN ROWS OF THIS SEAT. 6 by the template 'for every input the law returns true; each argument reads behind the call as it read before'; 0 by the template 'total and deterministic' (their statements: YtlmpoindlejefaaTotals.lean).
  GIVEN WITH THE SEED: the statements are not yours to turn. If you find one false, say at which input.
  Laid BY PROGRAM, IN A SANDBOX (cutbox-rows.mjs): the forced cells as the released guide's own fill.sh prints them over the translation 6e256c16de472cce… (all of the seat's roots in one cut). By AI agents, Wed Nov 11 2026. No macro, syntax, notation, axiom, sorry.
-/
import Derived.Test.YtlmpoindlejefaaChecked
import GoSem.Claim
import GoSem.ClaimJoined
import GoSem.ClaimMapViews
import Derived.JoinedTies
import Derived.KernelRfl
namespace Go.Proofs.Ytlmpoindlejefaa
/- THE CELL 'sum', in the pinned program and in every row, IS THE sha256 OF THE DUMP (.gsa) THAT YtlmpoindlejefaaProg.lean LOADS. Nothing in Lean hashes anything: it is a label: what it is worth is what the hold of that sum in a sandbox is worth. -/
noncomputable def Try.pinned : Pinned := { name := "ytlmpoindlejefaa", sum := "6e256c16de472cce806ed9780cbdd44fb1e0b53d885cb719ae974018a8f50b59", checked := Try.checked }
namespace Rows
def none {H : Type} : Left H := { results := [], args := [] }

/-- 'isoclinelaw27.FitLine': WHATEVER THE INPUT: true; the input reads as it did. -/
def fitLineSpec : ChangeSpec := { name := "fitLine", fn := fun _ => fun
  | [d1, d2] => { results := [.lit (.bool true)], args := [d1, d2] }
  | _ => none }
def fitLineRow : OpenClaim := { program := "ytlmpoindlejefaa", sum := "6e256c16de472cce806ed9780cbdd44fb1e0b53d885cb719ae974018a8f50b59", func := "isocline/isoclinelaw27.FitLine", spec := "fitLine", apart := false }
def FitLineSaid : Prop := fitLineRow.holds Try.pinned (OpenSpec.ofChange fitLineSpec)

/-- ITS FALSE NEIGHBOUR: 'it returns false'. Refute it at one input. -/
def fitLineWrong : ChangeSpec := { name := "fitLine", fn := fun _ => fun
  | [d1, d2] => { results := [.lit (.bool false)], args := [d1, d2] }
  | _ => none }
def FitLineWrongFalsely : Prop := fitLineRow.holds Try.pinned (OpenSpec.ofChange fitLineWrong)

/-- 'isoclinelaw27.FitSubject': WHATEVER THE INPUT: true; the input reads as it did. -/
def fitSubjectSpec : ChangeSpec := { name := "fitSubject", fn := fun _ => fun
  | [d1, d2, d3, d4] => { results := [.lit (.bool true)], args := [d1, d2, d3, d4] }
  | _ => none }
def fitSubjectRow : OpenClaim := { program := "ytlmpoindlejefaa", sum := "6e256c16de472cce806ed9780cbdd44fb1e0b53d885cb719ae974018a8f50b59", func := "isocline/isoclinelaw27.FitSubject", spec := "fitSubject", apart := false }
def FitSubjectSaid : Prop := fitSubjectRow.holds Try.pinned (OpenSpec.ofChange fitSubjectSpec)

/-- ITS FALSE NEIGHBOUR: 'it returns false'. Refute it at one input. -/
def fitSubjectWrong : ChangeSpec := { name := "fitSubject", fn := fun _ => fun
  | [d1, d2, d3, d4] => { results := [.lit (.bool false)], args := [d1, d2, d3, d4] }
  | _ => none }
def FitSubjectWrongFalsely : Prop := fitSubjectRow.holds Try.pinned (OpenSpec.ofChange fitSubjectWrong)

/-- 'isoclinelaw27.FitPlans': WHATEVER THE INPUT: true; the input reads as it did. -/
def fitPlansSpec : ChangeSpec := { name := "fitPlans", fn := fun _ => fun
  | [d1, d2, d3, d4, d5, d6] => { results := [.lit (.bool true)], args := [d1, d2, d3, d4, d5, d6] }
  | _ => none }
def fitPlansRow : OpenClaim := { program := "ytlmpoindlejefaa", sum := "6e256c16de472cce806ed9780cbdd44fb1e0b53d885cb719ae974018a8f50b59", func := "isocline/isoclinelaw27.FitPlans", spec := "fitPlans", unfollowed := true, recurses := true, apart := false }
def FitPlansSaid : Prop := fitPlansRow.holds Try.pinned (OpenSpec.ofChange fitPlansSpec)

/-- ITS FALSE NEIGHBOUR: 'it returns false'. Refute it at one input. -/
def fitPlansWrong : ChangeSpec := { name := "fitPlans", fn := fun _ => fun
  | [d1, d2, d3, d4, d5, d6] => { results := [.lit (.bool false)], args := [d1, d2, d3, d4, d5, d6] }
  | _ => none }
def FitPlansWrongFalsely : Prop := fitPlansRow.holds Try.pinned (OpenSpec.ofChange fitPlansWrong)

/-- 'isoclinelaw27.FitRows': WHATEVER THE INPUT: true; the input reads as it did. -/
def fitRowsSpec : ChangeSpec := { name := "fitRows", fn := fun _ => fun
  | [d1, d2] => { results := [.lit (.bool true)], args := [d1, d2] }
  | _ => none }
def fitRowsRow : OpenClaim := { program := "ytlmpoindlejefaa", sum := "6e256c16de472cce806ed9780cbdd44fb1e0b53d885cb719ae974018a8f50b59", func := "isocline/isoclinelaw27.FitRows", spec := "fitRows", apart := false }
def FitRowsSaid : Prop := fitRowsRow.holds Try.pinned (OpenSpec.ofChange fitRowsSpec)

/-- ITS FALSE NEIGHBOUR: 'it returns false'. Refute it at one input. -/
def fitRowsWrong : ChangeSpec := { name := "fitRows", fn := fun _ => fun
  | [d1, d2] => { results := [.lit (.bool false)], args := [d1, d2] }
  | _ => none }
def FitRowsWrongFalsely : Prop := fitRowsRow.holds Try.pinned (OpenSpec.ofChange fitRowsWrong)

/-- 'isoclinelaw27.FitBest': WHATEVER THE INPUT: true; the input reads as it did. -/
def fitBestSpec : ChangeSpec := { name := "fitBest", fn := fun _ => fun
  | [d1, d2, d3, d4] => { results := [.lit (.bool true)], args := [d1, d2, d3, d4] }
  | _ => none }
def fitBestRow : OpenClaim := { program := "ytlmpoindlejefaa", sum := "6e256c16de472cce806ed9780cbdd44fb1e0b53d885cb719ae974018a8f50b59", func := "isocline/isoclinelaw27.FitBest", spec := "fitBest", apart := false }
def FitBestSaid : Prop := fitBestRow.holds Try.pinned (OpenSpec.ofChange fitBestSpec)

/-- ITS FALSE NEIGHBOUR: 'it returns false'. Refute it at one input. -/
def fitBestWrong : ChangeSpec := { name := "fitBest", fn := fun _ => fun
  | [d1, d2, d3, d4] => { results := [.lit (.bool false)], args := [d1, d2, d3, d4] }
  | _ => none }
def FitBestWrongFalsely : Prop := fitBestRow.holds Try.pinned (OpenSpec.ofChange fitBestWrong)

/-- 'isoclinelaw04.MatZero': WHATEVER THE INPUT: true; the input reads as it did. -/
def matZeroSpec : ChangeSpec := { name := "matZero", fn := fun _ => fun
  | [d] => { results := [.lit (.bool true)], args := [d] }
  | _ => none }
def matZeroRow : OpenClaim := { program := "ytlmpoindlejefaa", sum := "6e256c16de472cce806ed9780cbdd44fb1e0b53d885cb719ae974018a8f50b59", func := "isocline/isoclinelaw04.MatZero", spec := "matZero", unfollowed := true, recurses := true, apart := false }
def MatZeroSaid : Prop := matZeroRow.holds Try.pinned (OpenSpec.ofChange matZeroSpec)

/-- ITS FALSE NEIGHBOUR: 'it returns false'. Refute it at one input. -/
def matZeroWrong : ChangeSpec := { name := "matZero", fn := fun _ => fun
  | [d] => { results := [.lit (.bool false)], args := [d] }
  | _ => none }
def MatZeroWrongFalsely : Prop := matZeroRow.holds Try.pinned (OpenSpec.ofChange matZeroWrong)

/- THE SECOND FORM. 'bulk': how many values and letters a reading holds, each counted each time it is reached (what is shared counts as often as it is met; a slice's spare places count too). A statement '..UptoSaid' is the law's where the arguments, and the package variables that the reading takes, are together of bulk at most 1048576: NARROWER than '..Said'. Prove '..Said' where nothing that the law and all that it calls make is longer than what came in: it says more and counts as full. Else prove '..UptoSaid'. A law counts once. -/
mutual
def uptoBulk {H : Type} : DataW H → Nat
  | .lit (.string bytes) => bytes.length + 1
  | .lit _ => 1
  | .nil => 1
  | .ptr d => uptoBulk d + 1
  | .slice elems spare => uptoBulkAll elems + uptoBulkAll spare + 1
  | .agg parts => uptoBulkAll parts + 1
  | .iface _ d => uptoBulk d + 1
  | .map entries => uptoBulkEntries entries + 1
  | .held _ => 1
def uptoBulkAll {H : Type} : List (DataW H) → Nat
  | [] => 0
  | d :: r => uptoBulk d + uptoBulkAll r
def uptoBulkEntries {H : Type} : List (Lit × DataW H) → Nat
  | [] => 0
  | x :: r => uptoBulkEntry x + uptoBulkEntries r
def uptoBulkEntry {H : Type} : Lit × DataW H → Nat
  | (.string bytes, d) => bytes.length + uptoBulk d + 1
  | (_, d) => uptoBulk d + 1
 end
def uptoSmall : (H : Type) → List (DataW H) → Bool := fun _ ds => decide (uptoBulkAll ds ≤ 1048576)
def OpenSpec.upto (s : _root_.Go.ChangeSpec) : _root_.Go.OpenSpec := { _root_.Go.OpenSpec.ofChange s with cond := some uptoSmall }

/-- 'isoclinelaw27.FitLine', WHERE WHAT IT READS IS OF BULK AT MOST 1048576: true; the input reads as it did. -/
def fitLineUptoRow : OpenClaim := { program := "ytlmpoindlejefaa", sum := "6e256c16de472cce806ed9780cbdd44fb1e0b53d885cb719ae974018a8f50b59", func := "isocline/isoclinelaw27.FitLine", spec := "fitLine", apart := false, narrowed := true }
def FitLineUptoSaid : Prop := fitLineUptoRow.holds Try.pinned (OpenSpec.upto fitLineSpec)

/-- 'isoclinelaw27.FitSubject', WHERE WHAT IT READS IS OF BULK AT MOST 1048576: true; the input reads as it did. -/
def fitSubjectUptoRow : OpenClaim := { program := "ytlmpoindlejefaa", sum := "6e256c16de472cce806ed9780cbdd44fb1e0b53d885cb719ae974018a8f50b59", func := "isocline/isoclinelaw27.FitSubject", spec := "fitSubject", apart := false, narrowed := true }
def FitSubjectUptoSaid : Prop := fitSubjectUptoRow.holds Try.pinned (OpenSpec.upto fitSubjectSpec)

/-- 'isoclinelaw27.FitPlans', WHERE WHAT IT READS IS OF BULK AT MOST 1048576: true; the input reads as it did. -/
def fitPlansUptoRow : OpenClaim := { program := "ytlmpoindlejefaa", sum := "6e256c16de472cce806ed9780cbdd44fb1e0b53d885cb719ae974018a8f50b59", func := "isocline/isoclinelaw27.FitPlans", spec := "fitPlans", unfollowed := true, recurses := true, apart := false, narrowed := true }
def FitPlansUptoSaid : Prop := fitPlansUptoRow.holds Try.pinned (OpenSpec.upto fitPlansSpec)

/-- 'isoclinelaw27.FitRows', WHERE WHAT IT READS IS OF BULK AT MOST 1048576: true; the input reads as it did. -/
def fitRowsUptoRow : OpenClaim := { program := "ytlmpoindlejefaa", sum := "6e256c16de472cce806ed9780cbdd44fb1e0b53d885cb719ae974018a8f50b59", func := "isocline/isoclinelaw27.FitRows", spec := "fitRows", apart := false, narrowed := true }
def FitRowsUptoSaid : Prop := fitRowsUptoRow.holds Try.pinned (OpenSpec.upto fitRowsSpec)

/-- 'isoclinelaw27.FitBest', WHERE WHAT IT READS IS OF BULK AT MOST 1048576: true; the input reads as it did. -/
def fitBestUptoRow : OpenClaim := { program := "ytlmpoindlejefaa", sum := "6e256c16de472cce806ed9780cbdd44fb1e0b53d885cb719ae974018a8f50b59", func := "isocline/isoclinelaw27.FitBest", spec := "fitBest", apart := false, narrowed := true }
def FitBestUptoSaid : Prop := fitBestUptoRow.holds Try.pinned (OpenSpec.upto fitBestSpec)

/-- 'isoclinelaw04.MatZero', WHERE WHAT IT READS IS OF BULK AT MOST 1048576: true; the input reads as it did. -/
def matZeroUptoRow : OpenClaim := { program := "ytlmpoindlejefaa", sum := "6e256c16de472cce806ed9780cbdd44fb1e0b53d885cb719ae974018a8f50b59", func := "isocline/isoclinelaw04.MatZero", spec := "matZero", unfollowed := true, recurses := true, apart := false, narrowed := true }
def MatZeroUptoSaid : Prop := matZeroUptoRow.holds Try.pinned (OpenSpec.upto matZeroSpec)

end Rows
end Go.Proofs.Ytlmpoindlejefaa
