/- The reference: the basis of a kernel, solutions, the one solution. -/
import Derived.Test.YtlmpoindlejefaaGreatVM26
set_option linter.unusedVariables false
set_option linter.unusedSimpArgs false
namespace Go.Proofs.YtlmpoindlejefaaGreat.E
open Go Go.RowKit
def pix (piv:List Int) (q:Nat):Nat->Option Nat
 | 0=>none
 | n+1=>if nd piv n=q then some n else pix piv q n
theorem pix_some {piv:List Int} {q a:Nat} :∀ {n},pix piv q n=some a->a<n/\nd piv a=q
 | n+1,h=>by
  unfold pix at h
  split at h
  ·rename_i e
   obtain rfl:=Option.some.inj h
   exact ⟨Nat.lt_succ_self _,e⟩
  ·have:=pix_some h
   exact ⟨by omega,this.2⟩
theorem pix_none {piv:List Int} {q:Nat} :∀ {n},pix piv q n=none->∀ a,a<n->nd piv a≠q
 | 0,_,a,ha=>by omega
 | n+1,h,a,ha=>by
  unfold pix at h
  split at h
  ·cases h
  ·rename_i e
   by_cases e2:a=n
   ·rw [e2];exact e
   ·exact pix_none h a (by omega)
def freeL (piv:List Int):Nat->List Nat
 | 0=>[]
 | n+1=>if pix piv n piv.length=none then freeL piv n ++ [n] else freeL piv n
theorem freeL_len (piv:List Int):∀ n,(freeL piv n).length<=n
 | 0=>Nat.le_refl _
 | n+1=>by
  have:=freeL_len piv n
  unfold freeL
  split
  ·simp;omega
  ·omega
theorem freeL_mem {piv:List Int} {j:Nat} :∀ {n},j ∈ freeL piv n ↔ j<n/\pix piv j piv.length=none
 | 0=>by simp [freeL]
 | n+1=>by
  unfold freeL
  split
  ·rename_i h
   rw [List.mem_append,freeL_mem,List.mem_singleton]
   constructor
   ·rintro (⟨h1,h2⟩ | rfl)
    ·exact ⟨by omega,h2⟩
    ·exact ⟨Nat.lt_succ_self _,h⟩
   ·rintro ⟨h1,h2⟩
    by_cases e:j=n
    ·exact .inr e
    ·exact .inl ⟨by omega,h2⟩
  ·rename_i h
   rw [freeL_mem]
   constructor
   ·rintro ⟨h1,h2⟩;exact ⟨by omega,h2⟩
   ·rintro ⟨h1,h2⟩
    refine ⟨?_,h2⟩
    rcases Nat.lt_or_ge j n with h3 | h3
    ·exact h3
    ·obtain rfl:j=n:=by omega
     exact absurd h2 h
def kvp (M:Nat->Nat->Rat) (piv:List Int) (j n q:Nat):Rat:=if q=j then 1 else match pix piv q n with
 | some a=>- M a j
 | none=>0
def kv (M:Nat->Nat->Rat) (piv:List Int) (j:Nat):Nat->Rat:=kvp M piv j piv.length
def xvp (M:Nat->Nat->Rat) (piv:List Int) (c n q:Nat):Rat:=match pix piv q n with
 | some a=>M a c
 | none=>0
theorem gi_nd {piv:List Int} {a:Nat} (h:0<=gn piv a):gi piv (a:Int)=(nd piv a:Int):=by
 have:gi piv (a:Int)=gn piv a:=by simp [gi,gn]
 rw [this]
 unfold nd
 omega
section
variable {r c:Nat} {M:Nat->Nat->Rat} {piv:List Int}
theorem ref04_basis_run {rows:List (List ref01_Q)} {w:Nat} {Q:List (List ref01_Q)->Prop} (hM:RM rows r w M) (hcw:c<=w) (hw:w<=1000000) (hr:r<=1000000) (hpl:piv.length<=r) (hpv:∀ a,a<piv.length->0<=gn piv a/\nd piv a<c) (H:∀ out,RM out (freeL piv c).length c (fun a=>kv M piv (gd (freeL piv c) a))->Q out):(ref04_basis.f rows piv (c:Int)).run Q:=by
 have hrl:=hM.1
 unfold ref04_basis.f
 refine W.loop_c (fun s:(Int->Bool)×Int=>∃ i:Nat,s.2=i/\i<=piv.length/\∀ q:Nat,s.1 q=true ↔ pix piv q i≠none) (fun s=>piv.length - s.2.toNat) ⟨0,rfl,Nat.zero_le _,fun q=>by simp [pix]⟩ ?_
 rintro ⟨f,_⟩ P0 ⟨i,rfl,hi,hf⟩ hgo0 hbrk0 hout0
 simp only at hf hgo0 |-
 unfold ref04_basis.l3
 refine W.run_if (fun c1=>W.req_i (by omega) (hgo0 _ ⟨i+1,by simp,by omega,fun q=>?_⟩ (by simp;omega))) (fun c1=>hbrk0 _ ?_)
 ·have hv:=hpv i (by omega)
  simp only
  rw [gi_nd hv.1]
  unfold mset pix
  by_cases e:nd piv i=q
  ·simp [e]
  ·rw [if_neg (by omega),if_neg e];exact hf q
 obtain rfl:i=piv.length:=by omega
 clear hgo0 hbrk0 hout0 c1 hi
 unfold ref04_basis.j1
 refine W.loop_c (fun s:List (List ref01_Q)×Int=>∃ j:Nat,s.2=j/\j<=c/\RM s.1 (freeL piv j).length c (fun a=>kv M piv (gd (freeL piv j) a))) (fun s=>c - s.2.toNat) ⟨0,rfl,Nat.zero_le _,⟨rfl,fun i hi=>by simp [freeL] at hi⟩⟩ ?_
 rintro ⟨out,_⟩ P ⟨j,rfl,hj,h1⟩ hgo hbrk hout
 simp only at h1 hgo |-
 unfold ref04_basis.l1
 refine W.run_if (fun c1=>?_) (fun c1=>hbrk _ (by (obtain rfl:j=c:=(by omega));exact H _ h1))
 have hjc:j<c:=by omega
 refine W.run_if (fun c2=>?_) (fun c2=>?_)
 ·unfold ref04_basis.j3
  refine hgo _ ⟨j+1,by simp,by omega,?_⟩ (by simp;omega)
  have:freeL piv (j+1)=freeL piv j:=by
   conv=>lhs;unfold freeL
   rw [if_neg ((hf j).1 c2)]
  rw [this];exact h1
 ·have hfree:pix piv j piv.length=none:=by
   cases hp:pix piv j piv.length with
   | none=>rfl
   | some a=>exact absurd ((hf j).2 (by rw [hp];simp)) c2
  have hfl:freeL piv (j+1)=freeL piv j ++ [j]:=by
   conv=>lhs;unfold freeL
   rw [if_pos hfree]
  rw [Int.toNat_natCast]
  refine W.req_i (by omega) (W.bd (ref01_Int_run (n:=1) (by show _/\_;omega) fun one hone=>W.req_i (by simp;omega) ?_))
  have hone:RRep one 1:=by simpa using hone
  refine W.loop_c (fun s:List ref01_Q×Int=>∃ i:Nat,s.2=i/\i<=piv.length/\RL s.1 c (kvp M piv j i)) (fun s=>piv.length - s.2.toNat) ⟨0,rfl,Nat.zero_le _,?_⟩ ?_
  ·refine ((RL.zero c).set (i:=j) hone).congr fun q hq=>?_
   unfold kvp pix
   rfl
  rintro ⟨v,_⟩ P2 ⟨i,rfl,hi,h2⟩ hgo2 hbrk2 hout2
  simp only at h2 hgo2 |-
  have hvl:=h2.1
  unfold ref04_basis.l2
  refine W.run_if (fun c3=>?_) (fun c3=>hbrk2 _ ?_)
  ·have hv:=hpv i (by omega)
   have hrow:=hM.2 i (by omega)
   have hl2:=hrow.1
   rw [gi_nd hv.1]
   simp only [gi_gd]
   refine W.req_i (by omega) (W.req_i (by omega) (W.req_i (by omega) (W.bd (ref01_Neg_run (hrow.2 j (by omega)) fun z hz=>W.req_i (by omega) (hgo2 _ ⟨i+1,by simp,by omega,?_⟩ (by simp;omega))))))
   simp only [Int.toNat_natCast]
   refine (h2.set hz).congr fun q hq=>?_
   have hne:nd piv i≠j:=pix_none hfree i (by omega)
   unfold kvp
   conv=>rhs;unfold pix
   by_cases e:q=nd piv i
   ·rw [if_pos e,if_neg (by omega),if_pos e.symm]
   ·have e3: ¬ nd piv i=q:=fun h=>e h.symm
    simp only [if_neg e,if_neg e3]
  ·obtain rfl:i=piv.length:=by omega
   have hol:=h1.1
   have hfln:=freeL_len piv j
   unfold ref04_basis.j4 ref04_basis.j3
   refine W.req_i (by omega) (hgo _ ⟨j+1,by simp,by omega,?_⟩ (by simp;omega))
   refine ⟨by simp [hfl,hol],fun a ha=>?_⟩
   simp only
   rw [hfl] at ha |-
   rw [gd_app,gd_app,hol]
   by_cases e:a<(freeL piv j).length
   ·rw [if_pos e,if_pos e];exact h1.2 a e
   ·have:a=(freeL piv j).length:=by simp at ha;omega
    rw [if_neg e,if_neg e,this,Nat.sub_self]
    exact h2
theorem RL.xset {l:List ref01_Q} {n i:Nat} (h:RL l n (xvp M piv c i)) {q:ref01_Q} (hq:RRep q (M i c)):RL (l.set (nd piv i) q) n (xvp M piv c (i+1)):=by
 refine (h.set hq).congr fun j hj=>?_
 unfold xvp
 conv=>rhs;unfold pix
 by_cases e:j=nd piv i
 ·rw [if_pos e,if_pos e.symm]
 ·rw [if_neg e,if_neg (fun h=>e h.symm)]
theorem ref04_Solution_gen {Z:Nat->(Nat->Nat->Rat)->Prop} {t0:Nat} {rows:List (List ref01_Q)} {b:List ref01_Q} {A:Nat->Nat->Rat} {V:Nat->Rat} {Q:List ref01_Q×List (List ref01_Q)×Bool->Prop} (hA:RM rows r c A) (hb:RL b r V) (hr:r<=999999) (hc:c<=999999) (ht0:4*t0<=8796093022208) (hZ0:Z 0 (augM c A V)) (hZ:Grows r (c+1) c t0 Z)
  (H1:∀ piv M' x ker,Red r (c+1) (augM c A V) M' c piv->(∀ i,piv.length<=i->i<r->M' i c=0)->Z c M'->RL x c (xvp M' piv c piv.length)->RM ker (freeL piv c).length c (fun a=>kv M' piv (gd (freeL piv c) a))->Q (x,ker,true))
  (H2:∀ piv M' i,Red r (c+1) (augM c A V) M' c piv->piv.length<=i->i<r->M' i c≠0->Q ([],[],false)):(ref04_Solution.f rows (c:Int) b).run Q:=by
 have hrl:=hA.1
 have hbl:=hb.1
 unfold ref04_Solution.f
 rw [hrl,Int.toNat_natCast]
 refine W.req_i (by omega) ?_
 refine W.loop_c (fun s':List (List ref01_Q)×Int=>∃ i:Nat,s'.2=i/\i<=r/\s'.1.length=r/\∀ j,j<i->RL (gd s'.1 j) (c+1) (augM c A V j)) (fun s=>r - s.2.toNat) ⟨0,rfl,Nat.zero_le _,by simp,fun j hj=>by omega⟩ ?_
 rintro ⟨t,_⟩ P0 ⟨i,rfl,hi,h1,h2⟩ hgo0 hbrk0 hout0
 simp only at h1 h2 hgo0 |-
 unfold ref04_Solution.l3
 rw [hrl]
 simp only [gi_gd]
 refine W.run_if (fun c1=>?_) (fun c1=>hbrk0 _ ?_)
 ·have hrow:=hA.2 i (by omega)
  have hl2:=hrow.1
  refine W.req_i (by omega) (W.req_i (by omega) (W.req_i (by omega) (W.req_i (by omega) (W.req_i (by omega) (hgo0 _ ⟨i+1,by simp,by omega,by simp [h1],fun j hj=>?_⟩ (by simp;omega))))))
  simp only [Int.toNat_natCast]
  rw [gd_set]
  by_cases e:i=j
  ·subst e
   rw [if_pos ⟨rfl,by omega⟩]
   have e1:RL (gd rows i) c (augM c A V i):=hrow.congr fun j hj=>by unfold augM;rw [if_neg (by omega)]
   refine e1.snoc ?_
   unfold augM
   rw [if_pos rfl]
   exact hb.2 i (by omega)
  ·rw [if_neg (by omega)];exact h2 j (by omega)
 obtain rfl:i=r:=by omega
 have ht:RM t i (c+1) (augM c A V):=⟨h1,h2⟩
 clear hgo0 hbrk0 hout0 h1 h2 c1 hi
 unfold ref04_Solution.j1
 refine W.bd (ref04_Reduced_gen ht (by omega) (by omega) (by omega) ht0 hZ0 hZ fun piv rows' M' r1 r2 r3=>?_)
 have hple:=r2.le
 have hrl':=r1.1
 simp only
 refine W.loop_c (fun p:Int=>∃ a:Nat,p=a/\piv.length<=a/\a<=i/\∀ k,piv.length<=k->k<a->M' k c=0) (fun p=>i - p.toNat) ⟨piv.length,rfl,Nat.le_refl _,hple,fun k h4 h5=>by omega⟩ ?_
 rintro _ P1 ⟨a,rfl,ha1,ha2,ha3⟩ hgo1 hbrk1 hout1
 unfold ref04_Solution.l2
 simp only [gi_gd]
 refine W.run_if (fun c1=>?_) (fun c1=>hbrk1 _ ?_)
 ·have hrow:=r1.2 a (by omega)
  have hl2:=hrow.1
  refine W.req_i (by omega) (W.req_i (by omega) (W.bd (ref01_IsZero_run (hrow.2 c (by omega)) (W.run_if (fun c3=>hgo1 _ ⟨a+1,by simp,by omega,by omega,fun k h4 h5=>?_⟩ (by simp;omega)) (fun c3=>hout1 _ (H2 piv M' a r2 ha1 (by omega) fun e=>c3 (decide_eq_true e)))))))
  by_cases e:k=a
  ·rw [e];exact of_decide_eq_true c3
  ·exact ha3 k h4 (by omega)
 obtain rfl:a=i:=by omega
 clear hgo1 hbrk1 hout1 c1 ha1 ha2
 unfold ref04_Solution.j2
 rw [Int.toNat_natCast]
 refine W.req_i (by omega) ?_
 refine W.loop_c (fun s':List ref01_Q×Int=>∃ k:Nat,s'.2=k/\k<=piv.length/\RL s'.1 c (xvp M' piv c k)) (fun s=>piv.length - s.2.toNat) ⟨0,rfl,Nat.zero_le _,RL.zero c⟩ ?_
 rintro ⟨x,_⟩ P2 ⟨k,rfl,hk,k1⟩ hgo2 hbrk2 hout2
 simp only at k1 hgo2 |-
 have hxl:=k1.1
 unfold ref04_Solution.l1
 dsimp only
 refine W.run_if (fun c1=>?_) (fun c1=>hbrk2 _ ?_)
 ·have hv:=r2.lt k (by omega)
  have hrow:=r1.2 k (by omega)
  have hl2:=hrow.1
  rw [gi_nd hv.1]
  simp only [gi_gd]
  refine W.req_i (by omega) (W.req_i (by omega) (W.req_i (by omega) (W.req_i (by omega) (hgo2 _ ⟨k+1,by simp,by omega,?_⟩ (by simp;omega)))))
  simp only [Int.toNat_natCast]
  exact k1.xset (hrow.2 c (by omega))
 ·obtain rfl:k=piv.length:=by omega
  unfold ref04_Solution.j3
  exact W.bd (ref04_basis_run r1 (by omega) (by omega) (by omega) hple r2.lt fun ker hker=>H1 piv M' x ker r2 ha3 r3 k1 hker)
theorem augM_all {P:Rat->Prop} {r c:Nat} {A:Nat->Nat->Rat} {V:Nat->Rat} (sA:∀ i k,i<r->k<c->P (A i k)) (sV:∀ i,i<r->P (V i)):∀ a k,a<r->k<c+1->P (augM c A V a k):=by
 intro a k ha hk
 unfold augM
 split
 ·exact sV a ha
 ·exact sA a k ha (by omega)
end
end Go.Proofs.YtlmpoindlejefaaGreat.E
