/- Joined. -/
import Derived.Test.YtlmpoindlejefaaGreatAM17
set_option linter.unusedVariables false
set_option linter.unusedSimpArgs false
namespace Go.Proofs.YtlmpoindlejefaaGreat.E
open Go Go.RowKit
def RL (l:List ref01_Q) (n:Nat) (f:Nat->Rat):Prop:=l.length=n/\∀ i,i<n->RRep (gd l i) (f i)
def RM (l:List (List ref01_Q)) (r c:Nat) (f:Nat->Nat->Rat):Prop:=l.length=r/\∀ i,i<r->RL (gd l i) c (f i)
theorem RL.congr {l:List ref01_Q} {n:Nat} {f g:Nat->Rat} (h:RL l n f) (he:∀ i,i<n->f i=g i):RL l n g:=⟨h.1,fun i hi=>he i hi ▸ h.2 i hi⟩
theorem RM.congr {l:List (List ref01_Q)} {r c:Nat} {f g:Nat->Nat->Rat} (h:RM l r c f) (he:∀ i j,i<r->j<c->f i j=g i j):RM l r c g:=⟨h.1,fun i hi=>(h.2 i hi).congr fun j hj=>he i j hi hj⟩
theorem RL.set {l:List ref01_Q} {n:Nat} {f:Nat->Rat} (h:RL l n f) {i:Nat} {q:ref01_Q} {y:Rat} (hq:RRep q y):RL (l.set i q) n (fun j=>if j=i then y else f j):=by
 refine ⟨by rw [List.length_set];exact h.1,fun j hj=>?_⟩
 rw [gd_set]
 dsimp only
 by_cases e:i=j
 ·subst e;rw [if_pos ⟨rfl,by rw [h.1];exact hj⟩];simpa using hq
 ·rw [if_neg (by omega),if_neg (by omega)];exact h.2 j hj
theorem RL.snoc {l:List ref01_Q} {n:Nat} {f:Nat->Rat} (h:RL l n f) {q:ref01_Q} (hq:RRep q (f n)):RL (l ++ [q]) (n+1) f:=by
 refine ⟨by rw [List.length_append,h.1];rfl,fun j hj=>?_⟩
 rw [gd_app,h.1]
 by_cases e:j=n
 ·subst e;rw [if_neg (by omega),Nat.sub_self];exact hq
 ·rw [if_pos (by omega)];exact h.2 j (by omega)
theorem RM.set {l:List (List ref01_Q)} {r c:Nat} {f:Nat->Nat->Rat} (h:RM l r c f) {i:Nat} {x:List ref01_Q} {g:Nat->Rat} (hx:RL x c g):RM (l.set i x) r c (fun k=>if k=i then g else f k):=by
 refine ⟨by rw [List.length_set];exact h.1,fun j hj=>?_⟩
 rw [gd_set]
 dsimp only
 by_cases e:i=j
 ·subst e;rw [if_pos ⟨rfl,by rw [h.1];exact hj⟩];simpa using hx
 ·rw [if_neg (by omega),if_neg (by omega)];exact h.2 j hj
theorem gd_rep {α:Type} [Inhabited α] {n k:Nat} {x:α} (h:k<n):gd (List.replicate n x) k=x:=by
 rw [gd_lt (by simpa using h)];simp
theorem RL.zero (n:Nat):RL (List.replicate n ⟨⟨[],false⟩,⟨[],false⟩⟩) n (fun _=>0):=⟨by simp,fun i hi=>by rw [gd_rep hi];exact RRep.zero⟩
theorem valid.i64 {r:api_Rat} (h:valid r):I64 r.N/\I64 r.D/\r.D≠0:=by
 obtain ⟨h1,h2,h3,h4,_⟩:=h
 exact ⟨by show _/\_;omega,by show _/\_;omega,by omega⟩
theorem ref01_List_run {l:List api_Rat} {n:Nat} {f:Nat->Rat} {Q:List ref01_Q->Prop} (hn:l.length=n) (hn2:n<=1000000) (hv:∀ k,k<n->valid (gd l k)/\ratOf (gd l k)=f k) (H:∀ o,RL o n f->Q o):(ref01_List.f l).run Q:=by
 unfold ref01_List.f
 refine W.loop_c (fun s:List ref01_Q×Int=>∃ i:Nat,s.2=i/\i<=n/\RL s.1 i f) (fun s=>n - s.2.toNat) ⟨0,rfl,Nat.zero_le _,rfl,fun j hj=>by omega⟩ ?_
 rintro ⟨o,_⟩ P ⟨i,rfl,hi,h1⟩ hgo hbrk hout
 simp only at h1 hgo |-
 have hol:=h1.1
 unfold ref01_List.l1
 simp only [gi_gd]
 refine W.run_if (fun c=>W.req_i (by omega) ?_) (fun c=>hbrk _ (by obtain rfl:i=n:=(by omega);exact H _ h1))
 have v:=hv i (by omega)
 obtain ⟨v1,v2,v3⟩:=v.1.i64
 refine W.bd (ref01_Of_run v1 v2 v3 fun z hz=>W.req_i (by omega) (hgo _ ⟨i+1,by simp,by omega,h1.snoc ?_⟩ (by simp;omega)))
 rw [<- v.2];exact hz
theorem tolds_succ (n:Nat) (f:Nat->Rat):tolds (n+1) f=tolds n f ++ [(toldR (f n)).1]:=by simp [tolds,List.range_succ]
theorem ref01_Rats_run {l:List ref01_Q} {n:Nat} {f:Nat->Rat} {Q:List api_Rat×Bool->Prop} (hl:RL l n f) (hn:n<=1000000) (h1:allTold n f->Q (tolds n f,true)) (h2: ¬ allTold n f->Q ([],false)):(ref01_Rats.f l).run Q:=by
 have hll:=hl.1
 unfold ref01_Rats.f
 refine W.loop_c (fun s:List api_Rat×Int=>∃ i:Nat,s.2=i/\i<=n/\s.1=tolds i f/\allTold i f) (fun s=>n - s.2.toNat) ⟨0,rfl,Nat.zero_le _,rfl,fun j hj=>by omega⟩ ?_
 rintro ⟨_,_⟩ P ⟨i,rfl,hi,rfl,k2⟩ hgo hbrk hout
 simp only at hgo |-
 have tl:=tolds_len i f
 unfold ref01_Rats.l1
 simp only [gi_gd]
 refine W.run_if (fun c=>W.req_i (by omega) (W.bd (ref01_Rat_run (hl.2 i (by omega)) (W.run_if (fun c2=>W.req_i (by omega) (hgo _ ⟨i+1,by simp,by omega,(tolds_succ i f).symm,fun j hj=>?_⟩ (by simp;omega))) (fun c2=>hout _ (h2 fun h=>c2 (h i (by omega)))))))) (fun c=>hbrk _ (by obtain rfl:i=n:=(by omega);exact h1 k2))
 by_cases e:j=i
 ·rw [e];exact c2
 ·exact k2 j (by omega)
theorem ref04_Rows_run {m:api_Mat} {r c:Nat} {Q:List (List ref01_Q)->Prop} (hR:m.R=r) (hC:m.C=c) (hr:r<=12) (hc:c<=12) (hl:m.V.length=r*c) (hv:∀ j i,j<r->i<c->valid (gd m.V (j*c+i))) (H:∀ o,RM o r c (mxv m.V c)->Q o):(ref04_Rows.f m).run Q:=by
 unfold ref04_Rows.f
 rw [hR,Int.toNat_natCast]
 refine W.req_i (by omega) ?_
 refine W.loop_c (fun s:List (List ref01_Q)×Int=>∃ i:Nat,s.2=i/\i<=r/\s.1.length=r/\∀ j,j<i->RL (gd s.1 j) c (mxv m.V c j)) (fun s=>r - s.2.toNat) ⟨0,rfl,Nat.zero_le _,by simp,fun j hj=>by omega⟩ ?_
 rintro ⟨o,_⟩ P ⟨i,rfl,hi,h1,h2⟩ hgo hbrk hout
 simp only at h1 h2 hgo |-
 unfold ref04_Rows.l1
 rw [hR,hC]
 refine W.run_if (fun c1=>?_) (fun c1=>hbrk _ (by obtain rfl:i=r:=(by omega);exact H _ ⟨h1,h2⟩))
 have hir:i<r:=by omega
 have hp:=mul_in (a:=(i:Int)) (b:=(c:Int)) (by omega) (by omega)
 have hp2:=mul_in (a:=(i:Int)+1) (b:=(c:Int)) (by omega) (by omega)
 refine W.req_i (by show _/\_;omega) (W.req_i (by show _/\_;omega) (W.req_i (row_in hl hir) ?_))
 rw [cut_eq]
 refine W.bd (ref01_List_run (n:=c) (f:=mxv m.V c i) (cut_len hl hir) (by omega) (fun k hk=>?_) fun ro hro=>W.req_i (by omega) (hgo _ ⟨i+1,by simp,by omega,by simp [h1],fun j hj=>?_⟩ (by simp;omega)))
 ·rw [gd_cut _ _ _ _ hk];exact ⟨hv i k hir hk,rfl⟩
 ·simp only [Int.toNat_natCast]
  rw [gd_set]
  by_cases e:i=j
  ·subst e;rw [if_pos ⟨rfl,by omega⟩];exact hro
  ·rw [if_neg (by omega)];exact h2 j (by omega)
end Go.Proofs.YtlmpoindlejefaaGreat.E
namespace Go.Proofs.YtlmpoindlejefaaGreat.E
open Go Go.RowKit
section
variable {r c:Nat} {M:Nat->Nat->Rat} {Q:List (List ref01_Q)×List Int->Prop}
end
end Go.Proofs.YtlmpoindlejefaaGreat.E
namespace Go.Proofs.YtlmpoindlejefaaGreat.E
open Go Go.RowKit
def pix (piv:List Int) (q:Nat):Nat->Option Nat
 | 0=>none
 | n+1=>if nd piv n=q then some n else pix piv q n
theorem pix_some {piv:List Int} {q a:Nat} :∀ {n},pix piv q n=some a->a<n/\nd piv a=q
 | n+1,h=>by
  unfold pix at h
  split at h
  ·rename_i e
   obtain rfl:=Option.some.inj h
   exact ⟨Nat.lt_succ_self _,e⟩
  ·have:=pix_some h
   exact ⟨by omega,this.2⟩
theorem pix_none {piv:List Int} {q:Nat} :∀ {n},pix piv q n=none->∀ a,a<n->nd piv a≠q
 | 0,_,a,ha=>by omega
 | n+1,h,a,ha=>by
  unfold pix at h
  split at h
  ·cases h
  ·rename_i e
   by_cases e2:a=n
   ·rw [e2];exact e
   ·exact pix_none h a (by omega)
def freeL (piv:List Int):Nat->List Nat
 | 0=>[]
 | n+1=>if pix piv n piv.length=none then freeL piv n ++ [n] else freeL piv n
theorem freeL_len (piv:List Int):∀ n,(freeL piv n).length<=n
 | 0=>Nat.le_refl _
 | n+1=>by
  have:=freeL_len piv n
  unfold freeL
  split
  ·simp;omega
  ·omega
theorem freeL_mem {piv:List Int} {j:Nat} :∀ {n},j ∈ freeL piv n ↔ j<n/\pix piv j piv.length=none
 | 0=>by simp [freeL]
 | n+1=>by
  unfold freeL
  split
  ·rename_i h
   rw [List.mem_append,freeL_mem,List.mem_singleton]
   constructor
   ·rintro (⟨h1,h2⟩ | rfl)
    ·exact ⟨by omega,h2⟩
    ·exact ⟨Nat.lt_succ_self _,h⟩
   ·rintro ⟨h1,h2⟩
    by_cases e:j=n
    ·exact .inr e
    ·exact .inl ⟨by omega,h2⟩
  ·rename_i h
   rw [freeL_mem]
   constructor
   ·rintro ⟨h1,h2⟩;exact ⟨by omega,h2⟩
   ·rintro ⟨h1,h2⟩
    refine ⟨?_,h2⟩
    rcases Nat.lt_or_ge j n with h3 | h3
    ·exact h3
    ·obtain rfl:j=n:=by omega
     exact absurd h2 h
def kvp (M:Nat->Nat->Rat) (piv:List Int) (j n q:Nat):Rat:=if q=j then 1 else match pix piv q n with
 | some a=>- M a j
 | none=>0
def kv (M:Nat->Nat->Rat) (piv:List Int) (j:Nat):Nat->Rat:=kvp M piv j piv.length
def xvp (M:Nat->Nat->Rat) (piv:List Int) (c n q:Nat):Rat:=match pix piv q n with
 | some a=>M a c
 | none=>0
theorem gi_nd {piv:List Int} {a:Nat} (h:0<=gn piv a):gi piv (a:Int)=(nd piv a:Int):=by
 have:gi piv (a:Int)=gn piv a:=by simp [gi,gn]
 rw [this]
 unfold nd
 omega
section
variable {r c:Nat} {M:Nat->Nat->Rat} {piv:List Int}
theorem augM_all {P:Rat->Prop} {r c:Nat} {A:Nat->Nat->Rat} {V:Nat->Rat} (sA:∀ i k,i<r->k<c->P (A i k)) (sV:∀ i,i<r->P (V i)):∀ a k,a<r->k<c+1->P (augM c A V a k):=by
 intro a k ha hk
 unfold augM
 split
 ·exact sV a ha
 ·exact sA a k ha (by omega)
end
end Go.Proofs.YtlmpoindlejefaaGreat.E
