/-
  No cell of these rows narrows 'for every input' (looked for: loops, veiled, ifaces, maps, wideKeys, modest, calm, conditions, laid).
  DERIVED. THE GIVEN ROWS OF THIS SEAT. 6 by the template 'for every input the law returns true; each argument reads behind the call as it read before'; 0 by the template 'total and deterministic' (their statements: YtlmpoindlejefaaGreatTotals.lean).
  GIVEN WITH THE SEED: the statements are not yours to turn. If you find one false, say at which input.
  Laid BY PROGRAM, IN A SANDBOX (cutbox-rows.mjs): the forced cells as the released guide's own fill.sh prints them over the translation d7964ed7279d4745… (all of the seat's roots in one cut). By AI agents, Wed Nov 11 2026. No macro, syntax, notation, axiom, sorry.
-/
import Derived.Test.YtlmpoindlejefaaGreatChecked
import GoSem.Claim
import GoSem.ClaimJoined
import GoSem.ClaimMapViews
import Derived.JoinedTies
import Derived.KernelRfl
namespace Go.Proofs.YtlmpoindlejefaaGreat
/- THE CELL 'sum', in the pinned program and in every row, IS THE sha256 OF THE DUMP (.gsa) THAT YtlmpoindlejefaaGreatProg.lean LOADS. Nothing in Lean hashes anything: it is a label: what it is worth is what the hold of that sum in a sandbox is worth. -/
noncomputable def Tryz.pinned : Pinned := { name := "ytlmpoindlejefaagreat", sum := "d7964ed7279d474556360ac9e5f834306a06b03247994e37785d769237ca92a4", checked := Tryz.checked }
namespace Rows
def none {H : Type} : Left H := { results := [], args := [] }

/-- 'isoclinelaw04.MatSolves': WHATEVER THE INPUT: true; the input reads as it did. -/
def matSolvesSpec : ChangeSpec := { name := "matSolves", fn := fun _ => fun
  | [d1, d2] => { results := [.lit (.bool true)], args := [d1, d2] }
  | _ => none }
def matSolvesRow : OpenClaim := { program := "ytlmpoindlejefaagreat", sum := "d7964ed7279d474556360ac9e5f834306a06b03247994e37785d769237ca92a4", func := "isocline/isoclinelaw04.MatSolves", spec := "matSolves", unfollowed := true, recurses := true, apart := false }
def MatSolvesSaid : Prop := matSolvesRow.holds Tryz.pinned (OpenSpec.ofChange matSolvesSpec)

/-- ITS FALSE NEIGHBOUR: 'it returns false'. Refute it at one input. -/
def matSolvesWrong : ChangeSpec := { name := "matSolves", fn := fun _ => fun
  | [d1, d2] => { results := [.lit (.bool false)], args := [d1, d2] }
  | _ => none }
def MatSolvesWrongFalsely : Prop := matSolvesRow.holds Tryz.pinned (OpenSpec.ofChange matSolvesWrong)

/-- 'isoclinelaw27.FitLeast': WHATEVER THE INPUT: true; the input reads as it did. -/
def fitLeastSpec : ChangeSpec := { name := "fitLeast", fn := fun _ => fun
  | [d1, d2, d3] => { results := [.lit (.bool true)], args := [d1, d2, d3] }
  | _ => none }
def fitLeastRow : OpenClaim := { program := "ytlmpoindlejefaagreat", sum := "d7964ed7279d474556360ac9e5f834306a06b03247994e37785d769237ca92a4", func := "isocline/isoclinelaw27.FitLeast", spec := "fitLeast", apart := false }
def FitLeastSaid : Prop := fitLeastRow.holds Tryz.pinned (OpenSpec.ofChange fitLeastSpec)

/-- ITS FALSE NEIGHBOUR: 'it returns false'. Refute it at one input. -/
def fitLeastWrong : ChangeSpec := { name := "fitLeast", fn := fun _ => fun
  | [d1, d2, d3] => { results := [.lit (.bool false)], args := [d1, d2, d3] }
  | _ => none }
def FitLeastWrongFalsely : Prop := fitLeastRow.holds Tryz.pinned (OpenSpec.ofChange fitLeastWrong)

/-- 'isoclinelaw27.FitSums': WHATEVER THE INPUT: true; the input reads as it did. -/
def fitSumsSpec : ChangeSpec := { name := "fitSums", fn := fun _ => fun
  | [d1, d2, d3, d4, d5] => { results := [.lit (.bool true)], args := [d1, d2, d3, d4, d5] }
  | _ => none }
def fitSumsRow : OpenClaim := { program := "ytlmpoindlejefaagreat", sum := "d7964ed7279d474556360ac9e5f834306a06b03247994e37785d769237ca92a4", func := "isocline/isoclinelaw27.FitSums", spec := "fitSums", apart := false }
def FitSumsSaid : Prop := fitSumsRow.holds Tryz.pinned (OpenSpec.ofChange fitSumsSpec)

/-- ITS FALSE NEIGHBOUR: 'it returns false'. Refute it at one input. -/
def fitSumsWrong : ChangeSpec := { name := "fitSums", fn := fun _ => fun
  | [d1, d2, d3, d4, d5] => { results := [.lit (.bool false)], args := [d1, d2, d3, d4, d5] }
  | _ => none }
def FitSumsWrongFalsely : Prop := fitSumsRow.holds Tryz.pinned (OpenSpec.ofChange fitSumsWrong)

/-- 'isoclinelaw04.MatArith': WHATEVER THE INPUT: true; the input reads as it did. -/
def matArithSpec : ChangeSpec := { name := "matArith", fn := fun _ => fun
  | [d1, d2, d3, d4] => { results := [.lit (.bool true)], args := [d1, d2, d3, d4] }
  | _ => none }
def matArithRow : OpenClaim := { program := "ytlmpoindlejefaagreat", sum := "d7964ed7279d474556360ac9e5f834306a06b03247994e37785d769237ca92a4", func := "isocline/isoclinelaw04.MatArith", spec := "matArith", unfollowed := true, recurses := true, apart := false }
def MatArithSaid : Prop := matArithRow.holds Tryz.pinned (OpenSpec.ofChange matArithSpec)

/-- ITS FALSE NEIGHBOUR: 'it returns false'. Refute it at one input. -/
def matArithWrong : ChangeSpec := { name := "matArith", fn := fun _ => fun
  | [d1, d2, d3, d4] => { results := [.lit (.bool false)], args := [d1, d2, d3, d4] }
  | _ => none }
def MatArithWrongFalsely : Prop := matArithRow.holds Tryz.pinned (OpenSpec.ofChange matArithWrong)

/-- 'isoclinelaw27.FitWithin': WHATEVER THE INPUT: true; the input reads as it did. -/
def fitWithinSpec : ChangeSpec := { name := "fitWithin", fn := fun _ => fun
  | [d1, d2, d3, d4] => { results := [.lit (.bool true)], args := [d1, d2, d3, d4] }
  | _ => none }
def fitWithinRow : OpenClaim := { program := "ytlmpoindlejefaagreat", sum := "d7964ed7279d474556360ac9e5f834306a06b03247994e37785d769237ca92a4", func := "isocline/isoclinelaw27.FitWithin", spec := "fitWithin", apart := false }
def FitWithinSaid : Prop := fitWithinRow.holds Tryz.pinned (OpenSpec.ofChange fitWithinSpec)

/-- ITS FALSE NEIGHBOUR: 'it returns false'. Refute it at one input. -/
def fitWithinWrong : ChangeSpec := { name := "fitWithin", fn := fun _ => fun
  | [d1, d2, d3, d4] => { results := [.lit (.bool false)], args := [d1, d2, d3, d4] }
  | _ => none }
def FitWithinWrongFalsely : Prop := fitWithinRow.holds Tryz.pinned (OpenSpec.ofChange fitWithinWrong)

/-- 'isoclinelaw04.MatForms': WHATEVER THE INPUT: true; the input reads as it did. -/
def matFormsSpec : ChangeSpec := { name := "matForms", fn := fun _ => fun
  | [d] => { results := [.lit (.bool true)], args := [d] }
  | _ => none }
def matFormsRow : OpenClaim := { program := "ytlmpoindlejefaagreat", sum := "d7964ed7279d474556360ac9e5f834306a06b03247994e37785d769237ca92a4", func := "isocline/isoclinelaw04.MatForms", spec := "matForms", unfollowed := true, recurses := true, apart := false }
def MatFormsSaid : Prop := matFormsRow.holds Tryz.pinned (OpenSpec.ofChange matFormsSpec)

/-- ITS FALSE NEIGHBOUR: 'it returns false'. Refute it at one input. -/
def matFormsWrong : ChangeSpec := { name := "matForms", fn := fun _ => fun
  | [d] => { results := [.lit (.bool false)], args := [d] }
  | _ => none }
def MatFormsWrongFalsely : Prop := matFormsRow.holds Tryz.pinned (OpenSpec.ofChange matFormsWrong)

/- THE SECOND FORM. 'bulk': how many values and letters a reading holds, each counted each time it is reached (what is shared counts as often as it is met; a slice's spare places count too). A statement '..UptoSaid' is the law's where the arguments, and the package variables that the reading takes, are together of bulk at most 1048576: NARROWER than '..Said'. Prove '..Said' where nothing that the law and all that it calls make is longer than what came in: it says more and counts as full. Else prove '..UptoSaid'. A law counts once. -/
mutual
def uptoBulk {H : Type} : DataW H → Nat
  | .lit (.string bytes) => bytes.length + 1
  | .lit _ => 1
  | .nil => 1
  | .ptr d => uptoBulk d + 1
  | .slice elems spare => uptoBulkAll elems + uptoBulkAll spare + 1
  | .agg parts => uptoBulkAll parts + 1
  | .iface _ d => uptoBulk d + 1
  | .map entries => uptoBulkEntries entries + 1
  | .held _ => 1
def uptoBulkAll {H : Type} : List (DataW H) → Nat
  | [] => 0
  | d :: r => uptoBulk d + uptoBulkAll r
def uptoBulkEntries {H : Type} : List (Lit × DataW H) → Nat
  | [] => 0
  | x :: r => uptoBulkEntry x + uptoBulkEntries r
def uptoBulkEntry {H : Type} : Lit × DataW H → Nat
  | (.string bytes, d) => bytes.length + uptoBulk d + 1
  | (_, d) => uptoBulk d + 1
 end
def uptoSmall : (H : Type) → List (DataW H) → Bool := fun _ ds => decide (uptoBulkAll ds ≤ 1048576)
def OpenSpec.upto (s : _root_.Go.ChangeSpec) : _root_.Go.OpenSpec := { _root_.Go.OpenSpec.ofChange s with cond := some uptoSmall }

/-- 'isoclinelaw04.MatSolves', WHERE WHAT IT READS IS OF BULK AT MOST 1048576: true; the input reads as it did. -/
def matSolvesUptoRow : OpenClaim := { program := "ytlmpoindlejefaagreat", sum := "d7964ed7279d474556360ac9e5f834306a06b03247994e37785d769237ca92a4", func := "isocline/isoclinelaw04.MatSolves", spec := "matSolves", unfollowed := true, recurses := true, apart := false, narrowed := true }
def MatSolvesUptoSaid : Prop := matSolvesUptoRow.holds Tryz.pinned (OpenSpec.upto matSolvesSpec)

/-- 'isoclinelaw27.FitLeast', WHERE WHAT IT READS IS OF BULK AT MOST 1048576: true; the input reads as it did. -/
def fitLeastUptoRow : OpenClaim := { program := "ytlmpoindlejefaagreat", sum := "d7964ed7279d474556360ac9e5f834306a06b03247994e37785d769237ca92a4", func := "isocline/isoclinelaw27.FitLeast", spec := "fitLeast", apart := false, narrowed := true }
def FitLeastUptoSaid : Prop := fitLeastUptoRow.holds Tryz.pinned (OpenSpec.upto fitLeastSpec)

/-- 'isoclinelaw27.FitSums', WHERE WHAT IT READS IS OF BULK AT MOST 1048576: true; the input reads as it did. -/
def fitSumsUptoRow : OpenClaim := { program := "ytlmpoindlejefaagreat", sum := "d7964ed7279d474556360ac9e5f834306a06b03247994e37785d769237ca92a4", func := "isocline/isoclinelaw27.FitSums", spec := "fitSums", apart := false, narrowed := true }
def FitSumsUptoSaid : Prop := fitSumsUptoRow.holds Tryz.pinned (OpenSpec.upto fitSumsSpec)

/-- 'isoclinelaw04.MatArith', WHERE WHAT IT READS IS OF BULK AT MOST 1048576: true; the input reads as it did. -/
def matArithUptoRow : OpenClaim := { program := "ytlmpoindlejefaagreat", sum := "d7964ed7279d474556360ac9e5f834306a06b03247994e37785d769237ca92a4", func := "isocline/isoclinelaw04.MatArith", spec := "matArith", unfollowed := true, recurses := true, apart := false, narrowed := true }
def MatArithUptoSaid : Prop := matArithUptoRow.holds Tryz.pinned (OpenSpec.upto matArithSpec)

/-- 'isoclinelaw27.FitWithin', WHERE WHAT IT READS IS OF BULK AT MOST 1048576: true; the input reads as it did. -/
def fitWithinUptoRow : OpenClaim := { program := "ytlmpoindlejefaagreat", sum := "d7964ed7279d474556360ac9e5f834306a06b03247994e37785d769237ca92a4", func := "isocline/isoclinelaw27.FitWithin", spec := "fitWithin", apart := false, narrowed := true }
def FitWithinUptoSaid : Prop := fitWithinUptoRow.holds Tryz.pinned (OpenSpec.upto fitWithinSpec)

/-- 'isoclinelaw04.MatForms', WHERE WHAT IT READS IS OF BULK AT MOST 1048576: true; the input reads as it did. -/
def matFormsUptoRow : OpenClaim := { program := "ytlmpoindlejefaagreat", sum := "d7964ed7279d474556360ac9e5f834306a06b03247994e37785d769237ca92a4", func := "isocline/isoclinelaw04.MatForms", spec := "matForms", unfollowed := true, recurses := true, apart := false, narrowed := true }
def MatFormsUptoSaid : Prop := matFormsUptoRow.holds Tryz.pinned (OpenSpec.upto matFormsSpec)

end Rows
end Go.Proofs.YtlmpoindlejefaaGreat
