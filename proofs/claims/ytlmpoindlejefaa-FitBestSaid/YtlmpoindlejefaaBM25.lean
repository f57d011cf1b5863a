/- The reference: lists, rows and matrices of numbers. -/
import Derived.Test.YtlmpoindlejefaaBM17
set_option linter.unusedVariables false
set_option linter.unusedSimpArgs false
namespace Go.Proofs.Ytlmpoindlejefaa.E
open Go Go.RowKit
theorem gd_rep {α:Type} [Inhabited α] {n k:Nat} {x:α} (h:k<n):gd (List.replicate n x) k=x:=by
 rw [zHN (by simpa using h)];simp
theorem valid.i64 {r:zAC} (h:valid r):I64 r.N/\I64 r.D/\r.D≠0:=by
 obtain ⟨h1,h2,h3,h4,_⟩:=h
 exact ⟨by show _/\_;omega,by show _/\_;omega,by omega⟩
end Go.Proofs.Ytlmpoindlejefaa.E
