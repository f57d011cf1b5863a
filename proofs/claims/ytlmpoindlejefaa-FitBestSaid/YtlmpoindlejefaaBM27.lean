/- The reference: the basis of a kernel, solutions, the one solution. -/
import Derived.Test.YtlmpoindlejefaaBM26
set_option linter.unusedVariables false
set_option linter.unusedSimpArgs false
namespace Go.Proofs.Ytlmpoindlejefaa.E
open Go Go.RowKit
def pix (piv:List Int) (q:Nat):Nat->Option Nat
 | 0=>none
 | n+1=>if nd piv n=q then some n else pix piv q n
theorem zGF {piv:List Int} {q a:Nat} :∀ {n},pix piv q n=some a->a<n/\nd piv a=q
 | n+1,h=>by
  unfold pix at h
  split at h
  ·rename_i e
   obtain rfl:=Option.some.inj h
   exact ⟨Nat.lt_succ_self _,e⟩
  ·have:=zGF h
   exact ⟨by omega,this.2⟩
theorem zIC {piv:List Int} {q:Nat} :∀ {n},pix piv q n=none->∀ a,a<n->nd piv a≠q
 | 0,_,a,ha=>by omega
 | n+1,h,a,ha=>by
  unfold pix at h
  split at h
  ·cases h
  ·rename_i e
   by_cases e2:a=n
   ·rw [e2];exact e
   ·exact zIC h a (by omega)
def xvp (M:Nat->Nat->Rat) (piv:List Int) (c n q:Nat):Rat:=match pix piv q n with
 | some a=>M a c
 | none=>0
theorem gi_nd {piv:List Int} {a:Nat} (h:0<=gn piv a):gi piv (a:Int)=(nd piv a:Int):=by
 have:gi piv (a:Int)=gn piv a:=by simp [gi,gn]
 rw [this]
 unfold nd
 omega
section
variable {r c:Nat} {M:Nat->Nat->Rat} {piv:List Int}
theorem zIQ {P:Rat->Prop} {r c:Nat} {A:Nat->Nat->Rat} {V:Nat->Rat} (sA:∀ i k,i<r->k<c->P (A i k)) (sV:∀ i,i<r->P (V i)):∀ a k,a<r->k<c+1->P (augM c A V a k):=by
 intro a k ha hk
 unfold augM
 split
 ·exact sV a ha
 ·exact sA a k ha (by omega)
end
end Go.Proofs.Ytlmpoindlejefaa.E
