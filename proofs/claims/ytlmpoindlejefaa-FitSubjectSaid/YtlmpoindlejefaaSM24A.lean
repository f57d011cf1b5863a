/- Rows, solutions and told lists: what all laws of the fit need. -/
import Derived.Test.YtlmpoindlejefaaSM23
set_option linter.unusedVariables false
set_option linter.unusedSimpArgs false
namespace Go.Proofs.Ytlmpoindlejefaa.E
open Go Go.RowKit
theorem fit_known_run {m:api_Mat} {b:List api_Rat} {Q:Int->Prop} (hl:m.V.length<=281474976710656) (hb:b.length<=281474976710656) (h0:matOk m->(∀ r ∈ b,valid r)->Q 0) (h1: ¬ (matOk m/\∀ r ∈ b,valid r)->Q 1):(fit_known.f m b).run Q:=by
 unfold fit_known.f
 refine W.bd (mat_Validate_run hl (fun c=>?_) (fun c=>?_))
 ·rw [if_neg (by decide)]
  exact W.bd (num_AllValid_run hb (W.run_if (fun c2=>h0 c (of_decide_eq_true c2)) (fun c2=>h1 fun h=>c2 (decide_eq_true h.2))))
 ·rw [if_pos (by decide)]
  exact h1 fun h=>c h.1
def Sol (n:Nat) (A:Nat->Nat->Rat) (V x:Nat->Rat):Prop:=∀ y,(∀ i,i<n->dz n (A i) y=V i) ↔ ∀ i,i<n->y i=x i
theorem law27_same_refl {l:List api_Rat} {Q:Bool->Prop} (H:Q true):(law27_same.f l l).run Q:=by
 unfold law27_same.f
 rw [if_neg (by simp)]
 refine W.loop_c (fun p=>∃ i:Nat,p=i/\i<=l.length) (fun p=>l.length - p.toNat) ⟨0,rfl,Nat.zero_le _⟩ ?_
 rintro _ P ⟨i,rfl,hi⟩ hgo hbrk hout
 unfold law27_same.l1
 refine W.run_if (fun c=>W.req_i (by omega) (W.req_i (by omega) ?_)) (fun c=>hbrk _ H)
 rw [if_pos (by simp)]
 exact hgo _ ⟨i+1,by simp,by omega⟩ (by omega)
end Go.Proofs.Ytlmpoindlejefaa.E
