/- Two reduced forms of one system tell one solution and one basis of the kernel; where no solution is, some multiples of the rows say 0 = 1. -/
import Derived.Test.YtlmpoindlejefaaGreatAM30
set_option linter.unusedVariables false
set_option linter.unusedSimpArgs false
namespace Go.Proofs.YtlmpoindlejefaaGreat.E
open Go Go.RowKit
section
variable {r c:Nat} {A:Nat->Nat->Rat} {V:Nat->Rat} {M M':Nat->Nat->Rat} {piv piv':List Int}
theorem Red.free_iff (h:Red r (c+1) (augM c A V) M c piv) {j:Nat} (hj:j<c):pix piv j piv.length=none ↔ ∃ y:Nat->Rat,(∀ i,i<r->dz c (A i) y=0)/\y j≠0/\∀ q,j<q->q<c->y q=0:=by
 constructor
 ·intro hf
  refine ⟨kv M piv j,h.kv0 hj hf,by rw [kv_self];decide,fun q h1 h2=>?_⟩
  cases hp:pix piv q piv.length with
  | none=>exact kv_free hp (by omega)
  | some a=>
   obtain ⟨g1,g2⟩:=pix_some hp
   rw [<- g2,h.kv_piv g1 hf,h.left a g1 j (by omega)];grind
 ·rintro ⟨y,h1,h2,h3⟩
  cases hp:pix piv j piv.length with
  | none=>rfl
  | some a=>
   exfalso
   obtain ⟨g1,g2⟩:=pix_some hp
   have:=(h.hom y).1 h1 a g1
   rw [g2,sm_zero fun k hk=>?_,Rat.add_zero] at this
   ·exact h2 this
   split
   ·rename_i e
    rcases Nat.lt_trichotomy k j with hkj | rfl | hkj
    ·rw [h.left a g1 k (by omega),Rat.zero_mul]
    ·rw [hp] at e;cases e
    ·rw [h3 k hkj hk,Rat.mul_zero]
   ·rfl
theorem Red.free_same (h:Red r (c+1) (augM c A V) M c piv) (h':Red r (c+1) (augM c A V) M' c piv') {j:Nat} (hj:j<c):pix piv j piv.length=none ↔ pix piv' j piv'.length=none:=by
 rw [h.free_iff hj,h'.free_iff hj]
theorem freeL_congr {n:Nat} (h:∀ j,j<n->(pix piv j piv.length=none ↔ pix piv' j piv'.length=none)):freeL piv n=freeL piv' n:=by
 induction n with
 | zero=>rfl
 | succ n ih=>
  have e:=h n (Nat.lt_succ_self _)
  unfold freeL
  rw [ih fun j hj=>h j (by omega)]
  by_cases e1:pix piv n piv.length=none
  ·rw [if_pos e1,if_pos (e.1 e1)]
  ·rw [if_neg e1,if_neg fun k=>e1 (e.2 k)]
theorem Red.freeL_same (h:Red r (c+1) (augM c A V) M c piv) (h':Red r (c+1) (augM c A V) M' c piv'):freeL piv c=freeL piv' c:=freeL_congr fun j hj=>h.free_same h' hj
theorem Red.null (h:Red r (c+1) (augM c A V) M c piv) {y:Nat->Rat} (hy:∀ i,i<r->dz c (A i) y=0) (h0:∀ q,q<c->pix piv q piv.length=none->y q=0):∀ q,q<c->y q=0:=by
 intro q hq
 cases hp:pix piv q piv.length with
 | none=>exact h0 q hq hp
 | some a=>
  obtain ⟨g1,g2⟩:=pix_some hp
  have:=(h.hom y).1 hy a g1
  rw [g2,sm_zero fun k hk=>?_,Rat.add_zero] at this
  ·exact this
  split
  ·rename_i e;rw [h0 k hk e,Rat.mul_zero]
  ·rfl
theorem Red.kv_same (h:Red r (c+1) (augM c A V) M c piv) (h':Red r (c+1) (augM c A V) M' c piv') {j:Nat} (hj:j<c) (hf:pix piv j piv.length=none):∀ q,q<c->kv M piv j q=kv M' piv' j q:=by
 intro q hq
 have hf':=(h.free_same h' hj).1 hf
 have:=h.null (y:=fun q=>kv M piv j q - kv M' piv' j q) (fun i hi=>by rw [dz_minus,h.kv0 hj hf i hi,h'.kv0 hj hf' i hi];grind) (fun q hq hp=>by
  by_cases e:q=j
  ·rw [e,kv_self,kv_self];grind
  ·rw [kv_free hp e,kv_free ((h.free_same h' hq).1 hp) e];grind) q hq
 grind
theorem xvp_free {q:Nat} (hq:pix piv q piv.length=none):xvp M piv c piv.length q=0:=by unfold xvp;rw [hq]
theorem Red.xvp_same (h:Red r (c+1) (augM c A V) M c piv) (h':Red r (c+1) (augM c A V) M' c piv') (h0:∀ i,piv.length<=i->i<r->M i c=0) (h0':∀ i,piv'.length<=i->i<r->M' i c=0):∀ q,q<c->xvp M piv c piv.length q=xvp M' piv' c piv'.length q:=by
 intro q hq
 have:=h.null (y:=fun q=>xvp M piv c piv.length q - xvp M' piv' c piv'.length q) (fun i hi=>by rw [dz_minus,h.xsol h0 i hi,h'.xsol h0' i hi];grind) (fun q hq hp=>by
  rw [xvp_free hp,xvp_free ((h.free_same h' hq).1 hp)];grind) q hq
 grind
theorem Red.none_iff (h:Red r (c+1) (augM c A V) M c piv):(∀ i,piv.length<=i->i<r->M i c=0) ↔ ∃ x:Nat->Rat,∀ i,i<r->dz c (A i) x=V i:=
 ⟨fun h0=>⟨_,h.xsol h0⟩,fun ⟨_,hx⟩=>h.clean hx⟩
end
end Go.Proofs.YtlmpoindlejefaaGreat.E
