/- Rows that are added one by one tell what they tell together: what the program does, and the law. -/
import Derived.Test.YtlmpoindlejefaaGreatSM23
set_option linter.unusedVariables false
set_option linter.unusedSimpArgs false
namespace Go.Proofs.YtlmpoindlejefaaGreat.E
open Go Go.RowKit
theorem fit_known_run {m:api_Mat} {b:List api_Rat} {Q:Int->Prop} (hl:m.V.length<=281474976710656) (hb:b.length<=281474976710656) (h0:matOk m->(∀ r ∈ b,valid r)->Q 0) (h1: ¬ (matOk m/\∀ r ∈ b,valid r)->Q 1):(fit_known.f m b).run Q:=by
 unfold fit_known.f
 refine W.bd (mat_Validate_run hl (fun c=>?_) (fun c=>?_))
 ·rw [if_neg (by decide)]
  exact W.bd (num_AllValid_run hb (W.run_if (fun c2=>h0 c (of_decide_eq_true c2)) (fun c2=>h1 fun h=>c2 (decide_eq_true h.2))))
 ·rw [if_pos (by decide)]
  exact h1 fun h=>c h.1
def Sol (n:Nat) (A:Nat->Nat->Rat) (V x:Nat->Rat):Prop:=∀ y,(∀ i,i<n->dz n (A i) y=V i) ↔ ∀ i,i<n->y i=x i
theorem szR_12 {s n:Nat} (hs:s<=973) (hn:n<=12):szR s n<=16400000000:=by
 have h1:=szR_mono s hn
 have h2:szR s 12<=16400000000:=by simp only [szR];omega
 omega
structure FitRep (f:api_Fit) (n:Nat) (A:Nat->Nat->Rat) (V:Nat->Rat) (q:Rat) (rows:Int):Prop where
 hn:f.N=n
 mr:f.M.R=n
 mc:f.M.C=n
 ml:f.M.V.length=n*n
 hm:∀ i k,i<n->k<n->valid (gd f.M.V (i*n+k))/\ratOf (gd f.M.V (i*n+k))=A i k
 vl:f.V.length=n
 hv:∀ i,i<n->valid (gd f.V i)/\ratOf (gd f.V i)=V i
 hq:valid f.Q/\ratOf f.Q=q
 hr:f.Rows=rows
theorem FitRep.small {f:api_Fit} {n:Nat} {A:Nat->Nat->Rat} {V:Nat->Rat} {q:Rat} {rows:Int} (h:FitRep f n A V q rows):Small 40 n A V q:=
 ⟨fun i k hi hk=>(h.hm i k hi hk).2 ▸ (h.hm i k hi hk).1.sz,fun i hi=>(h.hv i hi).2 ▸ (h.hv i hi).1.sz,h.hq.2 ▸ h.hq.1.sz⟩
theorem Small.mono {s t n:Nat} {A:Nat->Nat->Rat} {V:Nat->Rat} {q:Rat} (h:Small s n A V q) (hst:s<=t):Small t n A V q:=
 ⟨fun i k hi hk=>(h.a i k hi hk).mono hst,fun i hi=>(h.v i hi).mono hst,h.q.mono hst⟩
section
variable {f:api_Fit} {n:Nat} {A:Nat->Nat->Rat} {V:Nat->Rat} {q:Rat} {rows:Int}
theorem fit_of_run {Q:fit_sums->Prop} (h:FitRep f n A V q rows) (hn:n<=12) (H:∀ S,Sums S n A V q->Q S):(fit_of.f f).run Q:=by
 have hl:=h.ml
 have hvl:=h.vl
 unfold fit_of.f
 refine W.bd (num_In_run hvl (by omega) h.hv fun v hv=>W.bd (num_Of_run h.hq.1 fun q' hq=>?_))
 rw [h.hq.2] at hq
 rw [h.hn]
 refine W.loop_c (fun s:Int×List (List num_Q)×List num_Q×num_Q×Int=>∃ i:Nat,s.2.2.2.2=i/\i<=n/\s.1=n/\QM s.2.1 i n A/\s.2.2.1=v/\s.2.2.2.1=q') (fun s=>n - s.2.2.2.2.toNat) ⟨0,rfl,Nat.zero_le _,rfl,⟨rfl,fun i hi=>by omega⟩,rfl,rfl⟩ ?_
 rintro ⟨_,m,_,_,_⟩ P ⟨i,rfl,hi,rfl,h1,rfl,rfl⟩ hgo hbrk hout
 simp only at h1 hv hq hgo |-
 have hml:=h1.1
 unfold fit_of.l1
 rw [h.hn]
 refine W.run_if (fun c1=>?_) (fun c1=>hbrk _ ?_)
 ·have hir:i<n:=by omega
  have hp:=mul_in (a:=(i:Int)) (b:=(n:Int)) (by omega) (by omega)
  have hp2:=mul_in (a:=(i:Int)+1) (b:=(n:Int)) (by omega) (by omega)
  refine W.req_i (by show _/\_;omega) (W.req_i (by show _/\_;omega) (W.req_i (row_in hl hir) ?_))
  rw [cut_eq]
  refine W.bd (num_In_run (n:=n) (f:=A i) (cut_len hl hir) (by omega) (fun k hk=>?_) fun ro hro=>W.req_i (by omega) (hgo _ ⟨i+1,by simp,by omega,rfl,⟨by simp [hml],fun j hj=>?_⟩,rfl,rfl⟩ (by simp;omega)))
  ·rw [gd_cut _ _ _ _ hk];exact h.hm i k hir hk
  ·simp only
   rw [gd_app,hml]
   by_cases e:j<i
   ·rw [if_pos e];exact h1.2 j e
   ·obtain rfl:j=i:=by omega
    rw [if_neg (by omega),Nat.sub_self];exact hro
 ·obtain rfl:i=n:=by omega
  exact H _ ⟨rfl,h1,hv,hq⟩
end
theorem law27_same_refl {l:List api_Rat} {Q:Bool->Prop} (H:Q true):(law27_same.f l l).run Q:=by
 unfold law27_same.f
 rw [if_neg (by simp)]
 refine W.loop_c (fun p=>∃ i:Nat,p=i/\i<=l.length) (fun p=>l.length - p.toNat) ⟨0,rfl,Nat.zero_le _⟩ ?_
 rintro _ P ⟨i,rfl,hi⟩ hgo hbrk hout
 unfold law27_same.l1
 refine W.run_if (fun c=>W.req_i (by omega) (W.req_i (by omega) ?_)) (fun c=>hbrk _ H)
 rw [if_pos (by simp)]
 exact hgo _ ⟨i+1,by simp,by omega⟩ (by omega)
end Go.Proofs.YtlmpoindlejefaaGreat.E
