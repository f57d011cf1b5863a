/- Sums of a fit, and systems solved: what the program does. -/
import Derived.Test.YtlmpoindlejefaaSM19
set_option linter.unusedVariables false
set_option linter.unusedSimpArgs false
namespace Go.Proofs.Ytlmpoindlejefaa.E
open Go Go.RowKit
theorem slices_Clone_run {l:List num_Q} {Q:List num_Q->Prop} (hl:l.length<=1000000) (H:Q l):(slices_Clone_numQ.f l).run Q:=by
 unfold slices_Clone_numQ.f
 intro b hb
 refine W.run_if (fun c=>?_) (fun c=>W.req_i (by simp;omega) (by simpa [W.ret_r] using H))
 rw [W.ret_r,<- hb c]
 exact H
theorem fit_zeros_run {n:Nat} {Q:List num_Q->Prop} (hn:n<=1000000) (H:∀ l,QL l n (fun _=>0)->Q l):(fit_zeros.f (n:Int)).run Q:=by
 unfold fit_zeros.f
 rw [Int.toNat_natCast]
 refine W.req_i (by omega) ?_
 refine W.loop_c (fun s:List num_Q×Int=>∃ i:Nat,s.2=i/\i<=n/\s.1.length=n/\∀ j,j<i->QRep (gd s.1 j) 0) (fun s=>n - s.2.toNat) ⟨0,rfl,Nat.zero_le _,by simp,fun j hj=>by omega⟩ ?_
 rintro ⟨l,_⟩ P ⟨i,rfl,hi,h1,h2⟩ hgo hbrk hout
 simp only at h1 h2 hgo |-
 unfold fit_zeros.l1
 rw [Int.toNat_natCast,List.length_replicate]
 refine W.run_if (fun c=>W.bd (num_Q_Int_run (by show _/\_;omega) fun z hz=>W.req_i (by omega) (hgo _ ⟨i+1,by simp,by omega,by simp [h1],fun j hj=>?_⟩ (by simp;omega)))) (fun c=>hbrk _ (H _ ⟨h1,fun j hj=>h2 j (by omega)⟩))
 simp only [Int.toNat_natCast]
 rw [gd_set]
 by_cases e:i=j
 ·subst e;rw [if_pos ⟨rfl,by omega⟩];simpa using hz
 ·rw [if_neg (by omega)];exact h2 j (by omega)
theorem fit_none_run {n:Nat} {Q:fit_sums->Prop} (hn:n<=1000000) (H:∀ S:fit_sums,S.n=n->QM S.m n n (fun _ _=>0)->QL S.v n (fun _=>0)->QRep S.q 0->Q S):(fit_none.f (n:Int)).run Q:=by
 unfold fit_none.f
 refine W.bd (num_Q_Int_run (by show _/\_;omega) fun z hz=>?_)
 refine W.loop_c (fun s:Int×List (List num_Q)×List num_Q×num_Q×Int=>∃ i:Nat,s.2.2.2.2=i/\i<=n/\s.1=n/\QM s.2.1 i n (fun _ _=>0)/\s.2.2.2.1=z) (fun s=>n - s.2.2.2.2.toNat) ⟨0,rfl,Nat.zero_le _,rfl,⟨rfl,fun i hi=>by omega⟩,rfl⟩ ?_
 rintro ⟨_,m,v,q,_⟩ P ⟨i,rfl,hi,rfl,h1,rfl⟩ hgo hbrk hout
 simp only at h1 hgo |-
 have hl:=h1.1
 unfold fit_none.l1
 refine W.run_if (fun c=>W.bd (fit_zeros_run hn fun l hl2=>W.req_i (by omega) (hgo _ ⟨i+1,by simp,by omega,rfl,⟨by simp [hl],fun j hj=>?_⟩,rfl⟩ (by simp;omega)))) (fun c=>hbrk _ ?_)
 ·simp only
  rw [gd_app,hl]
  by_cases e:j<i
  ·rw [if_pos e];exact h1.2 j e
  ·rw [if_neg e,show j - i=0 by omega];exact hl2
 ·obtain rfl:i=n:=by omega
  exact W.bd (fit_zeros_run hn fun l hl2=>H _ rfl h1 hl2 (by simpa using hz))
theorem fit_sums_add_run {S:fit_sums} {row:List num_Q} {x2:num_Q} {n s t:Nat} {A:Nat->Nat->Rat} {V R:Nat->Rat} {q y:Rat} {Q:fit_sums->Prop} (hn:S.n=n) (hn2:n<=1000000) (hm:QM S.m n n A) (hv:QL S.v n V) (hq:QRep S.q q) (hr:QL row n R) (hy:QRep x2 y)
  (hs:s<=8796093022208) (ht:t+t<=8796093022208) (sA:∀ i k,i<n->k<n->Sz s (A i k)) (sV:∀ i,i<n->Sz s (V i)) (sq:Sz s q) (sR:∀ i,i<n->Sz t (R i)) (sy:Sz t y)
  (H:∀ S':fit_sums,S'.n=n->QM S'.m n n (fun i k=>A i k+R i*R k)->QL S'.v n (fun i=>V i+R i*y)->QRep S'.q (q+y*y)->Q S'):(fit_sums_add.f S row x2).run Q:=by
 have hrl:=hr.1
 unfold fit_sums_add.f
 refine W.loop_c (fun s':List (List num_Q)×List num_Q×Int=>∃ i:Nat,s'.2.2=i/\i<=n/\QM s'.1 n n (fun i' k=>if i'<i then A i' k+R i'*R k else A i' k)/\QL s'.2.1 n (fun i'=>if i'<i then V i'+R i'*y else V i')) (fun s=>n - s.2.2.toNat) ⟨0,rfl,Nat.zero_le _,hm.congr fun i k _ _=>by rw [if_neg (by omega)],hv.congr fun i _=>by rw [if_neg (by omega)]⟩ ?_
 rintro ⟨m,v,_⟩ P ⟨i,rfl,hi,h1,h2⟩ hgo hbrk hout
 simp only at h1 h2 hgo |-
 have hml:=h1.1
 have hvl:=h2.1
 unfold fit_sums_add.l1
 rw [hn]
 refine W.run_if (fun c=>?_) (fun c=>hbrk _ ?_)
 ·have hin:i<n:=by omega
  refine W.loop_c (fun s':List (List num_Q)×Int=>∃ k:Nat,s'.2=k/\k<=n/\QM s'.1 n n (fun i' k'=>if i'<i\/i'=i/\k'<k then A i' k'+R i'*R k' else A i' k')) (fun s=>n - s.2.toNat) ⟨0,rfl,Nat.zero_le _,h1.congr fun i' k' _ _=>by by_cases e:i'<i <;> simp [e]⟩ ?_
  rintro ⟨m2,_⟩ P2 ⟨k,rfl,hk,h3⟩ hgo2 hbrk2 hout2
  simp only at h3 hgo2 |-
  have hml2:=h3.1
  have hrow:=h3.2 i hin
  have hrl2:=hrow.1
  unfold fit_sums_add.l2
  simp only [hn,gi_gd,Int.toNat_natCast]
  refine W.run_if (fun c2=>?_) (fun c2=>hbrk2 _ ?_)
  ·have hkn:k<n:=by omega
   have hcell:=hrow.2 k hkn
   dsimp only at hcell
   rw [if_neg (by omega)] at hcell
   refine W.req_i (by omega) (W.req_i (by omega) (W.req_i (by omega) (W.req_i (by omega) (W.req_i (by omega) (W.bd (num_Q_Mul_run (hr.2 i hin) (hr.2 k hkn) ((sR i hin).ok (by omega)) ((sR k hkn).ok (by omega)) fun x hx=>W.bd (num_Q_Add_run hcell hx ((sA i k hin hkn).ok hs) (((sR i hin).mul (sR k hkn)).ok ht) fun z hz=>W.req_i (by omega) (hgo2 _ ⟨k+1,by simp,by omega,?_⟩ (by simp;omega)))))))))
   refine (h3.set (hrow.set hz)).congr fun i' k' _ _=>?_
   dsimp only
   by_cases e1:i'=i
   ·subst e1
    by_cases e2:k'=k
    ·subst e2;simp
    ·have:(k'<k+1) ↔ (k'<k):=by omega
     rw [if_pos rfl,if_neg e2]
     simp only [this]
   ·rw [if_neg e1]
    simp only [e1,false_and,or_false]
  ·obtain rfl:k=n:=by omega
   unfold fit_sums_add.j3 fit_sums_add.j2
   simp only [gi_gd,Int.toNat_natCast]
   have hcell:=h2.2 i hin
   dsimp only at hcell
   rw [if_neg (Nat.lt_irrefl _)] at hcell
   refine W.req_i (by omega) (W.req_i (by omega) (W.bd (num_Q_Mul_run (hr.2 i hin) hy ((sR i hin).ok (by omega)) (sy.ok (by omega)) fun x hx=>W.bd (num_Q_Add_run hcell hx ((sV i hin).ok hs) (((sR i hin).mul sy).ok ht) fun z hz=>W.req_i (by omega) (hgo _ ⟨i+1,by simp,by omega,h3.congr fun i' k' _ hk'=>?_,(h2.set hz).congr fun i' _=>?_⟩ (by simp;omega))))))
   ·by_cases e:i'=i
    ·subst e;simp [hk']
    ·have:(i'<i+1) ↔ (i'<i):=by omega
     simp [e,this]
   ·skip
    by_cases e:i'=i
    ·subst e;simp
    ·have:(i'<i+1) ↔ (i'<i):=by omega
     simp [e,this]
 ·obtain rfl:i=n:=by omega
  unfold fit_sums_add.j1
  refine W.bd (num_Q_Mul_run hy hy (sy.ok (by omega)) (sy.ok (by omega)) fun x hx=>W.bd (num_Q_Add_run hq hx (sq.ok hs) ((sy.mul sy).ok ht) fun z hz=>H _ hn ?_ ?_ hz))
  ·exact h1.congr fun i' k' hi' _=>by rw [if_pos hi']
  ·exact h2.congr fun i' hi'=>by rw [if_pos hi']
theorem fit_solve_gen {Z:Nat->(Nat->Nat->Rat)->Prop} {t0:Nat} {m:List (List num_Q)} {v:List num_Q} {n:Nat} {A:Nat->Nat->Rat} {V:Nat->Rat} {Q:List num_Q×Bool->Prop} (hm:QM m n n A) (hv:QL v n V) (hn:n<=999999) (ht0:4*t0<=8796093022208) (hZ0:Z 0 (augM n A V)) (hZ:Grows n (n+1) n t0 Z)
  (H1:∀ out x,QL out n x->(∀ y,(∀ i,i<n->dz n (A i) y=V i) ↔ ∀ i,i<n->y i=x i)->(∃ M',Z n M'/\∀ i,i<n->x i=M' i n)->Q (out,true))
  (H2:∀ z:Nat->Rat,(∃ f,f<n/\z f≠0)->(∀ i,i<n->dz n (A i) z=0)->Q ([],false)):(fit_solve.f m v).run Q:=by
 have hml:=hm.1
 have hvl:=hv.1
 unfold fit_solve.f
 rw [hml,Int.toNat_natCast]
 refine W.req_i (by omega) ?_
 refine W.loop_c (fun s':List (List num_Q)×Int=>∃ i:Nat,s'.2=i/\i<=n/\s'.1.length=n/\∀ i',i'<i->QL (gd s'.1 i') (n+1) (augM n A V i')) (fun s=>n - s.2.toNat) ⟨0,rfl,Nat.zero_le _,by simp,fun i hi=>by omega⟩ ?_
 rintro ⟨rows,_⟩ P ⟨i,rfl,hi,h1,h2⟩ hgo hbrk hout
 simp only at h1 h2 hgo |-
 unfold fit_solve.l2
 simp only [hml,gi_gd,Int.toNat_natCast]
 refine W.run_if (fun c=>?_) (fun c=>hbrk _ ?_)
 ·have hin:i<n:=by omega
  have hrow:=hm.2 i hin
  have hrl:=hrow.1
  refine W.req_i (by omega) (W.req_i (by omega) (W.bd (slices_Clone_run (by omega) (W.req_i (by omega) (W.req_i (by omega) (hgo _ ⟨i+1,by simp,by omega,by simp [h1],fun i' hi'=>?_⟩ (by simp;omega)))))))
  rw [gd_set]
  by_cases e:i=i'
  ·subst e
   rw [if_pos ⟨rfl,by omega⟩]
   exact hrow.snoc (hv.2 i hin)
  ·rw [if_neg (by omega)];exact h2 i' (by omega)
 obtain rfl:i=n:=by omega
 have hrows:QM rows i (i+1) (augM i A V):=⟨h1,h2⟩
 unfold fit_solve.j1
 rw [hml]
 refine W.bd (fit_reduce_gen hrows (by omega) (by omega) (by omega) ht0 hZ0 hZ fun piv rows' M' r1 r2 r3=>?_)
 simp only [Int.toNat_natCast]
 have hle:=r2.le
 refine W.run_if (fun c2=>?_) (fun c2=>W.req_i (by omega) ?_)
 ·obtain ⟨z,hz1,hz2⟩:=r2.free (by omega)
  exact H2 z hz1 hz2
 have hpl:piv.length=i:=by omega
 have hrl:=r1.1
 refine W.loop_c (fun s':List num_Q×Int=>∃ j:Nat,s'.2=j/\j<=i/\s'.1.length=i/\∀ j',j'<j->QRep (gd s'.1 j') (M' j' i)) (fun s=>i - s.2.toNat) ⟨0,rfl,Nat.zero_le _,by simp,fun j hj=>by omega⟩ ?_
 rintro ⟨out,_⟩ P2 ⟨j,rfl,hj,k1,k2⟩ hgo2 hbrk2 hout2
 simp only at k1 k2 hgo2 |-
 unfold fit_solve.l1
 simp only [hml,gi_gd,Int.toNat_natCast]
 refine W.run_if (fun c3=>?_) (fun c3=>hbrk2 _ ?_)
 ·have hji:j<i:=by omega
  have hrow:=r1.2 j hji
  have hrl2:=hrow.1
  refine W.req_i (by omega) (W.req_i (by omega) (W.req_i (by omega) (hgo2 _ ⟨j+1,by simp,by omega,by simp [k1],fun j' hj'=>?_⟩ (by simp;omega))))
  rw [gd_set]
  by_cases e:j=j'
  ·subst e
   rw [if_pos ⟨rfl,by omega⟩]
   exact hrow.2 i (by omega)
  ·rw [if_neg (by omega)];exact k2 j' (by omega)
 ·obtain rfl:j=i:=by omega
  exact H1 _ (fun a=>M' a j) ⟨k1,k2⟩ (fun y=>r2.solved hpl y) ⟨M',r3,fun _ _=>rfl⟩
theorem fit_solve_run {m:List (List num_Q)} {v:List num_Q} {n s:Nat} {A:Nat->Nat->Rat} {V:Nat->Rat} {Q:List num_Q×Bool->Prop} (hm:QM m n n A) (hv:QL v n V) (hn:n<=999999) (hs:4*szR s n+1<=8796093022208) (sA:∀ i k,i<n->k<n->Sz s (A i k)) (sV:∀ i,i<n->Sz s (V i))
  (H1:∀ out x,QL out n x->(∀ y,(∀ i,i<n->dz n (A i) y=V i) ↔ ∀ i,i<n->y i=x i)->(∀ i,i<n->Sz (szR s n) (x i))->Q (out,true))
  (H2:∀ z:Nat->Rat,(∃ f,f<n/\z f≠0)->(∀ i,i<n->dz n (A i) z=0)->Q ([],false)):(fit_solve.f m v).run Q:=
 fit_solve_gen (Z:=fun k N=>∀ i j,i<n->j<n+1->Sz (szR s k) (N i j)) hm hv hn (by omega) (fun a k ha hk=>by
  unfold augM
  split
  ·exact sV a ha
  ·exact sA a k ha (by omega)) Grows.szR (fun out x h1 h2 ⟨M',h3,h4⟩=>H1 out x h1 h2 fun i hi=>by rw [h4 i hi];exact h3 i n hi (by omega)) H2
end Go.Proofs.Ytlmpoindlejefaa.E
