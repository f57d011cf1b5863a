/-
  No cell of these rows narrows 'for every input' (looked for: loops, veiled, ifaces, maps, wideKeys, modest, calm, conditions, laid).
  DERIVED. THE GIVEN ROWS OF THIS SEAT. 5 by the template 'for every input the law returns true; each argument reads behind the call as it read before'; 0 by the template 'total and deterministic' (their statements: YtbjnmmgnonldnaaTotals.lean).
  GIVEN WITH THE SEED: the statements are not yours to turn. If you find one false, say at which input.
  Laid BY PROGRAM, IN A SANDBOX (cutbox-rows.mjs): the forced cells as the released guide's own fill.sh prints them over the translation 463e932e1725fd8f… (all of the seat's roots in one cut). By AI agents, Wed Nov 11 2026. No macro, syntax, notation, axiom, sorry.
-/
import Derived.Test.YtbjnmmgnonldnaaChecked
import GoSem.Claim
import GoSem.ClaimJoined
import GoSem.ClaimMapViews
import Derived.JoinedTies
import Derived.KernelRfl
namespace Go.Proofs.Ytbjnmmgnonldnaa
/- THE CELL 'sum', in the pinned program and in every row, IS THE sha256 OF THE DUMP (.gsa) THAT YtbjnmmgnonldnaaProg.lean LOADS. Nothing in Lean hashes anything: it is a label: what it is worth is what the hold of that sum in a sandbox is worth. -/
noncomputable def Try.pinned : Pinned := { name := "ytbjnmmgnonldnaa", sum := "463e932e1725fd8f19654b26c1d3ebcbf991952ee1fad0c01b185fb0396cfc2d", checked := Try.checked }
namespace Rows
def none {H : Type} : Left H := { results := [], args := [] }

/-- 'isoclinelaw28.FaultTests': WHATEVER THE INPUT: true; the input reads as it did. -/
def faultTestsSpec : ChangeSpec := { name := "faultTests", fn := fun _ => fun
  | [d1, d2, d3] => { results := [.lit (.bool true)], args := [d1, d2, d3] }
  | _ => none }
def faultTestsRow : OpenClaim := { program := "ytbjnmmgnonldnaa", sum := "463e932e1725fd8f19654b26c1d3ebcbf991952ee1fad0c01b185fb0396cfc2d", func := "isocline/isoclinelaw28.FaultTests", spec := "faultTests", unfollowed := true, recurses := true, plainKeys := false, apart := false }
def FaultTestsSaid : Prop := faultTestsRow.holds Try.pinned (OpenSpec.ofChange faultTestsSpec)

/-- ITS FALSE NEIGHBOUR: 'it returns false'. Refute it at one input. -/
def faultTestsWrong : ChangeSpec := { name := "faultTests", fn := fun _ => fun
  | [d1, d2, d3] => { results := [.lit (.bool false)], args := [d1, d2, d3] }
  | _ => none }
def FaultTestsWrongFalsely : Prop := faultTestsRow.holds Try.pinned (OpenSpec.ofChange faultTestsWrong)

/-- 'isoclinelaw28.FaultLeast': WHATEVER THE INPUT: true; the input reads as it did. -/
def faultLeastSpec : ChangeSpec := { name := "faultLeast", fn := fun _ => fun
  | [d] => { results := [.lit (.bool true)], args := [d] }
  | _ => none }
def faultLeastRow : OpenClaim := { program := "ytbjnmmgnonldnaa", sum := "463e932e1725fd8f19654b26c1d3ebcbf991952ee1fad0c01b185fb0396cfc2d", func := "isocline/isoclinelaw28.FaultLeast", spec := "faultLeast", unfollowed := true, recurses := true, plainKeys := false, apart := false }
def FaultLeastSaid : Prop := faultLeastRow.holds Try.pinned (OpenSpec.ofChange faultLeastSpec)

/-- ITS FALSE NEIGHBOUR: 'it returns false'. Refute it at one input. -/
def faultLeastWrong : ChangeSpec := { name := "faultLeast", fn := fun _ => fun
  | [d] => { results := [.lit (.bool false)], args := [d] }
  | _ => none }
def FaultLeastWrongFalsely : Prop := faultLeastRow.holds Try.pinned (OpenSpec.ofChange faultLeastWrong)

/-- 'isoclinelaw28.FaultTells': WHATEVER THE INPUT: true; the input reads as it did. -/
def faultTellsSpec : ChangeSpec := { name := "faultTells", fn := fun _ => fun
  | [d] => { results := [.lit (.bool true)], args := [d] }
  | _ => none }
def faultTellsRow : OpenClaim := { program := "ytbjnmmgnonldnaa", sum := "463e932e1725fd8f19654b26c1d3ebcbf991952ee1fad0c01b185fb0396cfc2d", func := "isocline/isoclinelaw28.FaultTells", spec := "faultTells", unfollowed := true, recurses := true, plainKeys := false, apart := false }
def FaultTellsSaid : Prop := faultTellsRow.holds Try.pinned (OpenSpec.ofChange faultTellsSpec)

/-- ITS FALSE NEIGHBOUR: 'it returns false'. Refute it at one input. -/
def faultTellsWrong : ChangeSpec := { name := "faultTells", fn := fun _ => fun
  | [d] => { results := [.lit (.bool false)], args := [d] }
  | _ => none }
def FaultTellsWrongFalsely : Prop := faultTellsRow.holds Try.pinned (OpenSpec.ofChange faultTellsWrong)

/-- 'isoclinelaw28.FaultSigns': WHATEVER THE INPUT: true; the input reads as it did. -/
def faultSignsSpec : ChangeSpec := { name := "faultSigns", fn := fun _ => fun
  | [d1, d2, d3, d4] => { results := [.lit (.bool true)], args := [d1, d2, d3, d4] }
  | _ => none }
def faultSignsRow : OpenClaim := { program := "ytbjnmmgnonldnaa", sum := "463e932e1725fd8f19654b26c1d3ebcbf991952ee1fad0c01b185fb0396cfc2d", func := "isocline/isoclinelaw28.FaultSigns", spec := "faultSigns", unfollowed := true, recurses := true, plainKeys := false, apart := false }
def FaultSignsSaid : Prop := faultSignsRow.holds Try.pinned (OpenSpec.ofChange faultSignsSpec)

/-- ITS FALSE NEIGHBOUR: 'it returns false'. Refute it at one input. -/
def faultSignsWrong : ChangeSpec := { name := "faultSigns", fn := fun _ => fun
  | [d1, d2, d3, d4] => { results := [.lit (.bool false)], args := [d1, d2, d3, d4] }
  | _ => none }
def FaultSignsWrongFalsely : Prop := faultSignsRow.holds Try.pinned (OpenSpec.ofChange faultSignsWrong)

/-- 'isoclinelaw28.FaultSensors': WHATEVER THE INPUT: true; the input reads as it did. -/
def faultSensorsSpec : ChangeSpec := { name := "faultSensors", fn := fun _ => fun
  | [d1, d2, d3] => { results := [.lit (.bool true)], args := [d1, d2, d3] }
  | _ => none }
def faultSensorsRow : OpenClaim := { program := "ytbjnmmgnonldnaa", sum := "463e932e1725fd8f19654b26c1d3ebcbf991952ee1fad0c01b185fb0396cfc2d", func := "isocline/isoclinelaw28.FaultSensors", spec := "faultSensors", unfollowed := true, recurses := true, plainKeys := false, apart := false }
def FaultSensorsSaid : Prop := faultSensorsRow.holds Try.pinned (OpenSpec.ofChange faultSensorsSpec)

/-- ITS FALSE NEIGHBOUR: 'it returns false'. Refute it at one input. -/
def faultSensorsWrong : ChangeSpec := { name := "faultSensors", fn := fun _ => fun
  | [d1, d2, d3] => { results := [.lit (.bool false)], args := [d1, d2, d3] }
  | _ => none }
def FaultSensorsWrongFalsely : Prop := faultSensorsRow.holds Try.pinned (OpenSpec.ofChange faultSensorsWrong)

/- THE SECOND FORM. 'bulk': how many values and letters a reading holds, each counted each time it is reached (what is shared counts as often as it is met; a slice's spare places count too). A statement '..UptoSaid' is the law's where the arguments, and the package variables that the reading takes, are together of bulk at most 1048576: NARROWER than '..Said'. Prove '..Said' where nothing that the law and all that it calls make is longer than what came in: it says more and counts as full. Else prove '..UptoSaid'. A law counts once. -/
mutual
def uptoBulk {H : Type} : DataW H → Nat
  | .lit (.string bytes) => bytes.length + 1
  | .lit _ => 1
  | .nil => 1
  | .ptr d => uptoBulk d + 1
  | .slice elems spare => uptoBulkAll elems + uptoBulkAll spare + 1
  | .agg parts => uptoBulkAll parts + 1
  | .iface _ d => uptoBulk d + 1
  | .map entries => uptoBulkEntries entries + 1
  | .held _ => 1
def uptoBulkAll {H : Type} : List (DataW H) → Nat
  | [] => 0
  | d :: r => uptoBulk d + uptoBulkAll r
def uptoBulkEntries {H : Type} : List (Lit × DataW H) → Nat
  | [] => 0
  | x :: r => uptoBulkEntry x + uptoBulkEntries r
def uptoBulkEntry {H : Type} : Lit × DataW H → Nat
  | (.string bytes, d) => bytes.length + uptoBulk d + 1
  | (_, d) => uptoBulk d + 1
 end
def uptoSmall : (H : Type) → List (DataW H) → Bool := fun _ ds => decide (uptoBulkAll ds ≤ 1048576)
def OpenSpec.upto (s : _root_.Go.ChangeSpec) : _root_.Go.OpenSpec := { _root_.Go.OpenSpec.ofChange s with cond := some uptoSmall }

/-- 'isoclinelaw28.FaultTests', WHERE WHAT IT READS IS OF BULK AT MOST 1048576: true; the input reads as it did. -/
def faultTestsUptoRow : OpenClaim := { program := "ytbjnmmgnonldnaa", sum := "463e932e1725fd8f19654b26c1d3ebcbf991952ee1fad0c01b185fb0396cfc2d", func := "isocline/isoclinelaw28.FaultTests", spec := "faultTests", unfollowed := true, recurses := true, plainKeys := false, apart := false, narrowed := true }
def FaultTestsUptoSaid : Prop := faultTestsUptoRow.holds Try.pinned (OpenSpec.upto faultTestsSpec)

/-- 'isoclinelaw28.FaultLeast', WHERE WHAT IT READS IS OF BULK AT MOST 1048576: true; the input reads as it did. -/
def faultLeastUptoRow : OpenClaim := { program := "ytbjnmmgnonldnaa", sum := "463e932e1725fd8f19654b26c1d3ebcbf991952ee1fad0c01b185fb0396cfc2d", func := "isocline/isoclinelaw28.FaultLeast", spec := "faultLeast", unfollowed := true, recurses := true, plainKeys := false, apart := false, narrowed := true }
def FaultLeastUptoSaid : Prop := faultLeastUptoRow.holds Try.pinned (OpenSpec.upto faultLeastSpec)

/-- 'isoclinelaw28.FaultTells', WHERE WHAT IT READS IS OF BULK AT MOST 1048576: true; the input reads as it did. -/
def faultTellsUptoRow : OpenClaim := { program := "ytbjnmmgnonldnaa", sum := "463e932e1725fd8f19654b26c1d3ebcbf991952ee1fad0c01b185fb0396cfc2d", func := "isocline/isoclinelaw28.FaultTells", spec := "faultTells", unfollowed := true, recurses := true, plainKeys := false, apart := false, narrowed := true }
def FaultTellsUptoSaid : Prop := faultTellsUptoRow.holds Try.pinned (OpenSpec.upto faultTellsSpec)

/-- 'isoclinelaw28.FaultSigns', WHERE WHAT IT READS IS OF BULK AT MOST 1048576: true; the input reads as it did. -/
def faultSignsUptoRow : OpenClaim := { program := "ytbjnmmgnonldnaa", sum := "463e932e1725fd8f19654b26c1d3ebcbf991952ee1fad0c01b185fb0396cfc2d", func := "isocline/isoclinelaw28.FaultSigns", spec := "faultSigns", unfollowed := true, recurses := true, plainKeys := false, apart := false, narrowed := true }
def FaultSignsUptoSaid : Prop := faultSignsUptoRow.holds Try.pinned (OpenSpec.upto faultSignsSpec)

/-- 'isoclinelaw28.FaultSensors', WHERE WHAT IT READS IS OF BULK AT MOST 1048576: true; the input reads as it did. -/
def faultSensorsUptoRow : OpenClaim := { program := "ytbjnmmgnonldnaa", sum := "463e932e1725fd8f19654b26c1d3ebcbf991952ee1fad0c01b185fb0396cfc2d", func := "isocline/isoclinelaw28.FaultSensors", spec := "faultSensors", unfollowed := true, recurses := true, plainKeys := false, apart := false, narrowed := true }
def FaultSensorsUptoSaid : Prop := faultSensorsUptoRow.holds Try.pinned (OpenSpec.upto faultSensorsSpec)

end Rows
end Go.Proofs.Ytbjnmmgnonldnaa
