/- The document's example. -/
import Derived.Test.YtlmpoindlejefaaGreatLM21
set_option linter.unusedVariables false
set_option linter.unusedSimpArgs false
namespace Go.Proofs.YtlmpoindlejefaaGreat.E
open Go Go.RowKit
theorem known_spec:lineSpec [⟨0,1⟩,⟨1,1⟩,⟨2,1⟩] [⟨1,1⟩,⟨2,1⟩,⟨4,1⟩] =(⟨3,2⟩,⟨5,6⟩,0):=by decide +kernel
theorem law27_known_run {Q:Bool->Prop} (H:Q true):law27_known.f.run Q:=by
 unfold law27_known.f
 refine W.req_i (by simp) (W.req_i (by simp) (W.bd (fit_Line_run (by simp) (by simp) ?_)))
 have e:lineSpec ([⟨0,1⟩,⟨1,1⟩,⟨2,1⟩,⟨4,1⟩].take (3:Int).toNat) ([⟨0,1⟩,⟨1,1⟩,⟨2,1⟩,⟨4,1⟩].drop (1:Int).toNat)=(⟨3,2⟩,⟨5,6⟩,0):=known_spec
 rw [e]
 exact H
end Go.Proofs.YtlmpoindlejefaaGreat.E
