/- Matrices of valid numbers, and the sums of a fit: what the program does. -/
import Derived.Test.YtlmpoindlejefaaSM21
set_option linter.unusedVariables false
set_option linter.unusedSimpArgs false
namespace Go.Proofs.Ytlmpoindlejefaa.E
open Go Go.RowKit
def matOk (m:api_Mat):Prop:=(0<=m.R/\m.R<=12)/\(0<=m.C/\m.C<=12)/\(m.V.length:Int)=m.R*m.C/\∀ r ∈ m.V,valid r
theorem mul_in {a b:Int} (ha:0<=a/\a<=13) (hb:0<=b/\b<=13):0<=a*b/\a*b<=169:=by
 have:=Int.mul_le_mul ha.2 hb.2 hb.1 (show (0:Int)<=13 by decide)
 exact ⟨Int.mul_nonneg ha.1 hb.1,by omega⟩
theorem mat_Validate_run {m:api_Mat} {Q:Int->Prop} (hl:m.V.length<=281474976710656) (h0:matOk m->Q 0) (h1: ¬ matOk m->Q 1):(mat_Validate.f m).run Q:=by
 unfold mat_Validate.f
 refine W.run_if (fun c=>h1 fun h=>by have:=h.1;omega) (fun c1=>W.run_if (fun c=>h1 fun h=>by have:=h.1;omega) (fun c2=>W.run_if (fun c=>h1 fun h=>by have:=h.2.1;omega) (fun c3=>W.run_if (fun c=>h1 fun h=>by have:=h.2.1;omega) (fun c4=>?_))))
 have hp:=mul_in (a:=m.R) (b:=m.C) (by omega) (by omega)
 exact W.req_i (by show _/\_;omega) (W.run_if (fun c=>h1 fun h=>c h.2.2.1) (fun c5=>W.bd (num_AllValid_run hl (W.run_if (fun c=>h0 ⟨by omega,by omega,by omega,of_decide_eq_true c⟩) (fun c=>h1 fun h=>c (decide_eq_true h.2.2.2))))))
theorem ref04_numbers_run {l:List api_Rat} {Q:Int->Prop} (hl:l.length<=281474976710656) (h0:(∀ r ∈ l,valid r)->Q 0) (h1:(¬ ∀ r ∈ l,valid r)->Q 1):(ref04_numbers.f l).run Q:=by
 unfold ref04_numbers.f
 refine W.loop_c (fun p=>∃ i:Nat,p=i/\i<=l.length/\∀ k,k<i->valid (gd l k)) (fun p=>l.length - p.toNat) ⟨0,rfl,Nat.zero_le _,fun k hk=>by omega⟩ ?_
 rintro _ P ⟨i,rfl,hi,hv⟩ hgo hbrk hout
 unfold ref04_numbers.l1
 rw [gi_gd]
 refine W.run_if (fun c=>W.req_i (by omega) (W.bd (ref01_Is_run (W.run_if (fun c2=>hgo _ ⟨i+1,by simp,by omega,fun k hk=>?_⟩ (by omega)) (fun c2=>hout _ (h1 fun h=>c2 (decide_eq_true (h _ (gd_mem (by omega)))))))))) (fun c=>hbrk _ (h0 ((all_valid_iff l).2 fun k hk=>hv k (by omega))))
 by_cases e:k=i
 ·subst e;exact of_decide_eq_true c2
 ·exact hv k (by omega)
theorem ref04_Validate_run {m:api_Mat} {Q:Int->Prop} (hl:m.V.length<=281474976710656) (h0:matOk m->Q 0) (h1: ¬ matOk m->Q 1):(ref04_Validate.f m).run Q:=by
 unfold ref04_Validate.f
 refine W.run_if (fun c=>h1 fun h=>by have:=h.1;omega) (fun c1=>W.run_if (fun c=>h1 fun h=>by have:=h.1;omega) (fun c2=>W.run_if (fun c=>h1 fun h=>by have:=h.2.1;omega) (fun c3=>W.run_if (fun c=>h1 fun h=>by have:=h.2.1;omega) (fun c4=>?_))))
 have hp:=mul_in (a:=m.R) (b:=m.C) (by omega) (by omega)
 exact W.req_i (by show _/\_;omega) (W.run_if (fun c=>h1 fun h=>c h.2.2.1) (fun c5=>W.bd (ref04_numbers_run hl (fun c=>h0 ⟨by omega,by omega,by omega,c⟩) (fun c=>h1 fun h=>c h.2.2.2))))
theorem gd_cut {α:Type} [Inhabited α] (l:List α) (a b k:Nat) (h:k<b):gd ((l.drop a).take b) k=gd l (a+k):=by
 simp [gd,List.getD_eq_getElem?_getD,List.getElem?_take,h,List.getElem?_drop]
theorem cut_eq {α:Type} (l:List α) (i c:Nat):(l.drop ((i:Int)*(c:Int)).toNat).take (((i:Int)+1)*(c:Int) - (i:Int)*(c:Int)).toNat=(l.drop (i*c)).take c:=by
 have e:((i:Int)+1)*(c:Int) - (i:Int)*(c:Int)=(c:Int):=by rw [Int.add_mul,Int.one_mul];omega
 rw [e,<- Int.natCast_mul,Int.toNat_natCast,Int.toNat_natCast]
theorem at_lt {i r k c:Nat} (hi:i<r) (hk:k<c):i*c+k<r*c:=by
 have:=Nat.mul_le_mul_right c (show i+1<=r from hi)
 rw [Nat.add_mul] at this
 omega
theorem row_in {n i r c:Nat} (hl:n=r*c) (hi:i<r):(0:Int)<=(i:Int)*(c:Int)/\(i:Int)*(c:Int)<=((i:Int)+1)*(c:Int)/\((i:Int)+1)*(c:Int)<=(n:Int):=by
 have:=Nat.mul_le_mul_right c (show i+1<=r from hi)
 rw [Nat.add_mul] at this
 have e:((i:Int)+1)*(c:Int)=(i:Int)*(c:Int)+(c:Int):=by rw [Int.add_mul,Int.one_mul]
 rw [e,<- Int.natCast_mul]
 omega
theorem cut_len {α:Type} {l:List α} {i r c:Nat} (hl:l.length=r*c) (hi:i<r):((l.drop (i*c)).take c).length=c:=by
 have:=Nat.mul_le_mul_right c (show i+1<=r from hi)
 rw [Nat.add_mul] at this
 rw [List.length_take,List.length_drop]
 omega
def mxv (v:List api_Rat) (c j i:Nat):Rat:=ratOf (gd v (j*c+i))
theorem num_In_run {l:List api_Rat} {n:Nat} {f:Nat->Rat} {Q:List num_Q->Prop} (hn:l.length=n) (hn2:n<=1000000) (hv:∀ k,k<n->valid (gd l k)/\ratOf (gd l k)=f k) (H:∀ o,QL o n f->Q o):(num_In.f l).run Q:=by
 unfold num_In.f
 rw [Int.toNat_natCast]
 refine W.req_i (by omega) ?_
 refine W.loop_c (fun s:List num_Q×Int=>∃ i:Nat,s.2=i/\i<=n/\s.1.length=n/\∀ j,j<i->QRep (gd s.1 j) (f j)) (fun s=>n - s.2.toNat) ⟨0,rfl,Nat.zero_le _,by simp [hn],fun j hj=>by omega⟩ ?_
 rintro ⟨o,_⟩ P ⟨i,rfl,hi,h1,h2⟩ hgo hbrk hout
 simp only at h1 h2 hgo |-
 unfold num_In.l1
 simp only [gi_gd,Int.toNat_natCast]
 refine W.run_if (fun c=>W.req_i (by omega) (W.bd (num_Of_run (hv i (by omega)).1 fun z hz=>W.req_i (by omega) (hgo _ ⟨i+1,by simp,by omega,by simp [h1],fun j hj=>?_⟩ (by simp;omega))))) (fun c=>hbrk _ (H _ ⟨h1,fun j hj=>h2 j (by omega)⟩))
 rw [gd_set]
 by_cases e:i=j
 ·subst e;rw [if_pos ⟨rfl,by omega⟩,<- (hv i (by omega)).2];exact hz
 ·rw [if_neg (by omega)];exact h2 j (by omega)
structure Sums (S:fit_sums) (n:Nat) (A:Nat->Nat->Rat) (V:Nat->Rat) (q:Rat):Prop where
 hn:S.n=n
 hm:QM S.m n n A
 hv:QL S.v n V
 hq:QRep S.q q
structure Small (s n:Nat) (A:Nat->Nat->Rat) (V:Nat->Rat) (q:Rat):Prop where
 a:∀ i k,i<n->k<n->Sz s (A i k)
 v:∀ i,i<n->Sz s (V i)
 q:Sz s q
def gA (v:List api_Rat) (c n i k:Nat):Rat:=sm n (fun j=>mxv v c j i*mxv v c j k)
def gV (v b:List api_Rat) (c n i:Nat):Rat:=sm n (fun j=>mxv v c j i*ratOf (gd b j))
def gq (b:List api_Rat) (n:Nat):Rat:=sm n (fun j=>ratOf (gd b j)*ratOf (gd b j))
theorem g_small {v b:List api_Rat} {c r n:Nat} (hr:r<=12) (hn:n<=r) (hv:∀ j i,j<r->i<c->valid (gd v (j*c+i))) (hb:∀ j,j<r->valid (gd b j)):Small 973 c (gA v c n) (gV v b c n) (gq b n):=by
 refine ⟨fun i k hi hk=>?_,fun i hi=>?_,?_⟩
 ·exact (Sz.sm fun j hj=>(hv j i (by omega) hi).sz.mul (hv j k (by omega) hk).sz).mono (by omega)
 ·exact (Sz.sm fun j hj=>(hv j i (by omega) hi).sz.mul (hb j (by omega)).sz).mono (by omega)
 ·exact (Sz.sm fun j hj=>(hb j (by omega)).sz.mul (hb j (by omega)).sz).mono (by omega)
theorem matOk.at {m:api_Mat} {r c:Nat} (h:matOk m) (hR:m.R=r) (hC:m.C=c):m.V.length=r*c/\∀ j i,j<r->i<c->valid (gd m.V (j*c+i)):=by
 have hl:m.V.length=r*c:=by
  have:=h.2.2.1
  rw [hR,hC,<- Int.natCast_mul] at this
  exact Int.ofNat.inj this
 refine ⟨hl,fun j i hj hi=>(all_valid_iff _).1 h.2.2.2 _ ?_⟩
 rw [hl]
 exact at_lt hj hi
theorem fit_made_run {m:api_Mat} {b:List api_Rat} {r c:Nat} {Q:fit_problem->Prop} (hm:matOk m) (hR:m.R=r) (hC:m.C=c) (hb:b.length=r) (vb:∀ k,k<r->valid (gd b k)) (H:∀ P:fit_problem,Sums P.sums c (gA m.V c r) (gV m.V b c r) (gq b r)->Q P):(fit_made.f m b).run Q:=by
 obtain ⟨hl,hv⟩:=hm.at hR hC
 have hr12:r<=12:=by have:=hm.1;omega
 have hc12:c<=12:=by have:=hm.2.1;omega
 unfold fit_made.f
 rw [hC]
 refine W.bd (fit_none_run (n:=c) (by omega) fun S hS1 hS2 hS3 hS4=>W.bd (num_In_run hb (by omega) (fun k hk=>⟨vb k hk,rfl⟩) fun B hB=>?_))
 refine W.loop_c (fun s:Int×List (List num_Q)×List num_Q×num_Q×List (List num_Q)×List num_Q×Int=>∃ i:Nat,s.2.2.2.2.2.2=i/\i<=r/\s.2.2.2.2.1.length=i/\s.2.2.2.2.2.1=B/\Sums ⟨s.1,s.2.1,s.2.2.1,s.2.2.2.1⟩ c (gA m.V c i) (gV m.V b c i) (gq b i)) (fun s=>r - s.2.2.2.2.2.2.toNat) ⟨0,rfl,Nat.zero_le _,rfl,rfl,⟨hS1,hS2,hS3,hS4⟩⟩ ?_
 rintro ⟨n,M,v,q,rows,_,_⟩ P ⟨i,rfl,hi,h1,rfl,h2⟩ hgo hbrk hout
 simp only at h1 h2 hB hgo |-
 unfold fit_made.l1
 rw [hR,hC]
 refine W.run_if (fun c1=>?_) (fun c1=>hbrk _ ?_)
 ·have hir:i<r:=by omega
  have hp:=mul_in (a:=(i:Int)) (b:=(c:Int)) (by omega) (by omega)
  have hp2:=mul_in (a:=(i:Int)+1) (b:=(c:Int)) (by omega) (by omega)
  refine W.req_i (by show _/\_;omega) (W.req_i (by show _/\_;omega) (W.req_i (row_in hl hir) ?_))
  rw [cut_eq]
  refine W.bd (num_In_run (n:=c) (f:=mxv m.V c i) (cut_len hl hir) (by omega) (fun k hk=>?_) fun ro hro=>?_)
  ·rw [gd_cut _ _ _ _ hk];exact ⟨hv i k hir hk,rfl⟩
  have e:gi (rows ++ [ro]) (i:Int)=ro:=by rw [gi_gd,gd_app,if_neg (by omega),h1,Nat.sub_self];rfl
  have hBl:=hB.1
  rw [e,gi_gd]
  have z:=g_small (n:=i) hr12 hi hv vb
  exact W.req_i (by omega) (W.req_i (by simp;omega) (W.req_i (by omega) (W.bd (fit_sums_add_run (n:=c) (s:=973) (t:=40) h2.hn (by omega) h2.hm h2.hv h2.hq hro (hB.2 i hir) (by omega) (by omega) z.a z.v z.q (fun a ha=>(hv i a hir ha).sz) (vb i hir).sz fun S' k1 k2 k3 k4=>hgo _ ⟨i+1,by simp,by omega,by simp [h1],rfl,⟨k1,k2,k3,k4⟩⟩ (by simp;omega)))))
 ·obtain rfl:i=r:=by omega
  unfold fit_made.j1
  exact H _ h2
def tolds (n:Nat) (f:Nat->Rat):List api_Rat:=(List.range n).map fun i=>(toldR (f i)).1
def allTold (n:Nat) (f:Nat->Rat):Prop:=∀ i,i<n->(toldR (f i)).2=true
theorem tolds_len (n:Nat) (f:Nat->Rat):(tolds n f).length=n:=by simp [tolds]
theorem tolds_congr {n:Nat} {f g:Nat->Rat} (h:∀ i,i<n->f i=g i):tolds n f=tolds n g:=by
 unfold tolds
 exact List.map_congr_left fun i hi=>by rw [h i (List.mem_range.1 hi)]
theorem num_Outs_run {l:List num_Q} {n:Nat} {f:Nat->Rat} {Q:List api_Rat×Bool->Prop} (hl:QL l n f) (hn:n<=1000000) (h1:allTold n f->Q (tolds n f,true)) (h2: ¬ allTold n f->Q ([],false)):(num_Outs.f l).run Q:=by
 have hll:=hl.1
 unfold num_Outs.f
 rw [Int.toNat_natCast]
 refine W.req_i (by omega) ?_
 refine W.loop_c (fun s:List api_Rat×Int=>∃ i:Nat,s.2=i/\i<=n/\s.1.length=n/\∀ j,j<i->gd s.1 j=(toldR (f j)).1/\(toldR (f j)).2=true) (fun s=>n - s.2.toNat) ⟨0,rfl,Nat.zero_le _,by simp [hll],fun j hj=>by omega⟩ ?_
 rintro ⟨o,_⟩ P ⟨i,rfl,hi,k1,k2⟩ hgo hbrk hout
 simp only at k1 k2 hgo |-
 unfold num_Outs.l1
 simp only [gi_gd,Int.toNat_natCast]
 refine W.run_if (fun c=>W.req_i (by omega) (W.bd (num_Out_run (hl.2 i (by omega)) (W.run_if (fun c2=>W.req_i (by omega) (hgo _ ⟨i+1,by simp,by omega,by simp [k1],fun j hj=>?_⟩ (by simp;omega))) (fun c2=>hout _ (h2 fun h=>c2 (h i (by omega)))))))) (fun c=>hbrk _ ?_)
 ·rw [gd_set]
  by_cases e:i=j
  ·subst e;rw [if_pos ⟨rfl,by omega⟩];exact ⟨rfl,c2⟩
  ·rw [if_neg (by omega)];exact k2 j (by omega)
 ·have e:o=tolds n f:=by
   apply List.ext_getElem
   ·rw [k1,tolds_len]
   ·intro j a b
    have:=(k2 j (by omega)).1
    rw [gd_lt a] at this
    rw [this]
    simp [tolds]
  have:=h1 fun j hj=>(k2 j (by omega)).2
  rw [<- e] at this
  exact this
end Go.Proofs.Ytlmpoindlejefaa.E
