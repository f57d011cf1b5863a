/- Joined. -/
import Derived.Test.YtgbmmbfminafnaaKM17
set_option linter.unusedVariables false
set_option linter.unusedSimpArgs false
namespace Go.Proofs.Ytgbmmbfminafnaa.E
open Go Go.RowKit
theorem QM.snoc {l:List (List num_Q)} {r c:Nat} {A:Nat->Nat->Rat} (h:QM l r c A) {x:List num_Q} (hx:QL x c (A r)):QM (l ++ [x]) (r+1) c A:=by
 refine ⟨by simp [h.1],fun i hi=>?_⟩
 rw [gd_app,h.1]
 by_cases e:i<r
 ·rw [if_pos e];exact h.2 i e
 ·obtain rfl:i=r:=by omega
  rw [if_neg e,Nat.sub_self];exact hx
section
variable {r c d:Nat} {A B:Nat->Nat->Rat} {Q:qm_M->Prop}
theorem qm_New_run (hr:r<=1000000) (hc:c<=1000000) (H:∀ o:qm_M,o.C=c->QM o.V r c (fun _ _=>0)->Q o):(qm_New.f (r:Int) (c:Int)).run Q:=by
 unfold qm_New.f
 rw [Int.toNat_natCast]
 refine W.req_i (by omega) ?_
 refine W.loop_c (fun s:List (List num_Q)×Int=>∃ i:Nat,s.2=i/\i<=r/\s.1.length=r/\∀ q,q<i->QL (gd s.1 q) c (fun _=>0)) (fun s=>r - s.2.toNat) ⟨0,rfl,Nat.zero_le _,by simp,fun q hq=>by omega⟩ ?_
 rintro ⟨rows,_⟩ P ⟨i,rfl,hi,h1,h2⟩ hgo hbrk hout
 simp only at h1 h2 hgo |-
 unfold qm_New.l1
 simp only [Int.toNat_natCast,List.length_replicate]
 refine W.run_if (fun c1=>?_) (fun c1=>hbrk _ ?_)
 ·refine W.req_i (by omega) (W.req_i (by omega) (W.req_i (by rw [List.length_set];omega) ?_))
  refine W.loop_c (fun s:List (List num_Q)×Int=>∃ j:Nat,s.2=j/\j<=c/\s.1.length=r/\(∀ q,q<i->QL (gd s.1 q) c (fun _=>0))/\(gd s.1 i).length=c/\∀ q,q<j->QRep (gd (gd s.1 i) q) 0) (fun s=>c - s.2.toNat) ⟨0,rfl,Nat.zero_le _,by simp [h1],fun q hq=>by rw [gd_set,if_neg (by omega)];exact h2 q hq,by rw [gd_set,if_pos ⟨rfl,by omega⟩];simp,fun q hq=>by omega⟩ ?_
  rintro ⟨rows2,_⟩ P2 ⟨j,rfl,hj,k1,k2,k3,k4⟩ hgo2 hbrk2 hout2
  simp only at k1 k2 k3 k4 hgo2 |-
  unfold qm_New.l2
  simp only [Int.toNat_natCast,gi_gd,show ∀ x:List num_Q,gd (rows.set i x) i=x from fun x=>by rw [gd_set,if_pos ⟨rfl,by omega⟩],List.length_replicate]
  refine W.run_if (fun c2=>?_) (fun c2=>hbrk2 _ ?_)
  ·refine W.req_i (by omega) (W.bd (num_Q_Int_run (by show _/\_;omega) fun z hz=>W.req_i (by omega) (hgo2 _ ⟨j+1,by simp,by omega,by simp [k1],fun q hq=>?_,?_,fun q hq=>?_⟩ (by simp;omega))))
   ·rw [gd_set,if_neg (by omega)];exact k2 q hq
   ·rw [gd_set,if_pos ⟨rfl,by omega⟩,List.length_set];exact k3
   ·rw [gd_set,if_pos ⟨rfl,by omega⟩,gd_set]
    by_cases e:j=q
    ·rw [if_pos ⟨e,by omega⟩];simpa using hz
    ·rw [if_neg (by omega)];exact k4 q (by omega)
  ·obtain rfl:j=c:=by omega
   unfold qm_New.j2
   refine hgo _ ⟨i+1,by simp,by omega,k1,fun q hq=>?_⟩ (by simp;omega)
   by_cases e:q=i
   ·rw [e];exact ⟨k3,k4⟩
   ·exact k2 q (by omega)
 ·obtain rfl:i=r:=by omega
  unfold qm_New.j1
  exact H _ rfl ⟨h1,h2⟩
theorem qm_Of_run {m:api_Mat} (ok:matOk m) (hR:m.R=r) (hC:m.C=c) (H:∀ o:qm_M,o.C=c->QM o.V r c (mxv m.V c)->Q o):(qm_Of.f m).run Q:=by
 obtain ⟨hl,hv⟩:=ok.at hR hC
 have hr12:r<=12:=by have:=ok.1;omega
 have hc12:c<=12:=by have:=ok.2.1;omega
 unfold qm_Of.f
 rw [hR,hC]
 refine W.bd (qm_New_run (by omega) (by omega) fun o ho1 ho2=>?_)
 have hol:=ho2.1
 refine W.loop_c (fun s:List (List num_Q)×Int=>∃ i:Nat,s.2=i/\i<=r/\QM s.1 r c (fun q k=>if q<i then mxv m.V c q k else 0)) (fun s=>r - s.2.toNat) ⟨0,rfl,Nat.zero_le _,ho2.congr fun q k hq hk=>by rw [if_neg (by omega)]⟩ ?_
 rintro ⟨rows,_⟩ P ⟨i,rfl,hi,h1⟩ hgo hbrk hout
 simp only at h1 hgo |-
 have h1l:=h1.1
 unfold qm_Of.l1
 rw [hol]
 refine W.run_if (fun c1=>?_) (fun c1=>hbrk _ ?_)
 ·have hir:i<r:=by omega
  refine W.req_i (by omega) ?_
  refine W.loop_c (fun s:List (List num_Q)×Int=>∃ j:Nat,s.2=j/\j<=c/\QM s.1 r c (fun q k=>if q<i\/q=i/\k<j then mxv m.V c q k else 0)) (fun s=>c - s.2.toNat) ⟨0,rfl,Nat.zero_le _,h1.congr fun q k hq hk=>by simp⟩ ?_
  rintro ⟨rows2,_⟩ P2 ⟨j,rfl,hj,k1⟩ hgo2 hbrk2 hout2
  simp only at k1 hgo2 |-
  have k1l:=k1.1
  have hrow:=k1.2 i hir
  have hrl:=hrow.1
  have hrl0:=(h1.2 i hir).1
  unfold qm_Of.l2
  simp only [gi_gd,hrl0,hC]
  refine W.run_if (fun c2=>?_) (fun c2=>hbrk2 _ ?_)
  ·have hjc:j<c:=by omega
   have hp:=mul_in (a:=(i:Int)) (b:=(c:Int)) (by omega) (by omega)
   have hat:=at_lt hir hjc
   have e1:(i:Int)*(c:Int)+(j:Int)=((i*c+j:Nat):Int):=by simp
   refine W.req_i (by omega) (W.req_i (by show _/\_;omega) (W.req_i (by show _/\_;omega) ?_))
   rw [e1,gi_gd]
   refine W.req_i (by omega) (W.bd (num_Of_run (hv i j hir hjc) fun u hu=>W.req_i (by omega) (hgo2 _ ⟨j+1,by simp,by omega,?_⟩ (by simp;omega))))
   simp only [Int.toNat_natCast]
   refine (k1.set (hrow.set hu)).congr fun q k hq hk=>?_
   dsimp only
   by_cases e2:q=i
   ·subst e2
    by_cases e3:k=j
    ·subst e3;simp;rfl
    ·have:(k<j+1) ↔ (k<j):=by omega
     simp [e3,this]
   ·simp [e2]
  ·obtain rfl:j=c:=by omega
   unfold qm_Of.j2
   refine hgo _ ⟨i+1,by simp,by omega,k1.congr fun q k hq hk=>?_⟩ (by simp;omega)
   by_cases e2:q=i
   ·subst e2;simp [hk]
   ·have:(q<i+1) ↔ (q<i):=by omega
    simp [e2,this]
 ·obtain rfl:i=r:=by omega
  unfold qm_Of.j1
  exact H _ ho1 (h1.congr fun q k hq hk=>by rw [if_pos hq])
theorem qm_Copy_run {dd:Int} {x:qm_M} (hC:x.C=dd) (hx:QM x.V r c A) (hr:r<=1000000) (hc:c<=1000000) (H:∀ o:qm_M,o.C=dd->QM o.V r c A->Q o):(qm_M_Copy.f x).run Q:=by
 have hxl:=hx.1
 unfold qm_M_Copy.f
 refine W.loop_c (fun s:Int×List (List num_Q)×Int=>∃ i:Nat,s.2.2=i/\i<=r/\s.1=dd/\QM s.2.1 i c A) (fun s=>r - s.2.2.toNat) ⟨0,rfl,Nat.zero_le _,hC,⟨rfl,fun i hi=>by omega⟩⟩ ?_
 rintro ⟨cc,rows,_⟩ P ⟨i,rfl,hi,rfl,h1⟩ hgo hbrk hout
 simp only at h1 hgo |-
 have h1l:=h1.1
 unfold qm_M_Copy.l1
 rw [hxl]
 simp only [gi_gd]
 refine W.run_if (fun c1=>?_) (fun c1=>hbrk _ ?_)
 ·have hrow:=hx.2 i (by omega)
  have hrl:=hrow.1
  exact W.req_i (by omega) (W.req_i (by omega) (W.req_i (by omega) (hgo _ ⟨i+1,by simp,by omega,rfl,h1.snoc hrow⟩ (by simp;omega))))
 ·obtain rfl:i=r:=by omega
  unfold qm_M_Copy.j1
  exact H _ rfl h1
end
end Go.Proofs.Ytgbmmbfminafnaa.E
namespace Go.Proofs.Ytgbmmbfminafnaa.E
open Go Go.RowKit
theorem Red.fillQ {r c k n:Nat} {M0 M:Nat->Nat->Rat} {piv:List Int} (h:Red r c M0 M k piv) (hl:piv.length=r) (hk:k<=n):Red r c M0 M n piv:=by
 obtain ⟨d,rfl⟩:=Nat.exists_eq_add_of_le hk
 clear hk
 induction d with
 | zero=>exact h
 | succ d ih=>exact ih.skip fun i h1 h2=>by omega
abbrev QmC:=Ctl (List (List num_Q)×List Int×num_Q×Int) (qm_M×List Int×num_Q)
section
variable {r c:Nat} {M:Nat->Nat->Rat} {Q:qm_M×List Int×num_Q->Prop}
theorem qm_div {rows0:List (List num_Q)} {N:Nat->Nat->Rat} {piv:List Int} {m k:Nat} {C1:List (List num_Q)×Int->W QmC} {C2:qm_M×List Int×num_Q->W QmC} {P:QmC->Prop} {s:Nat}
  (hrows:QM rows0 r c N) (hpl:piv.length=m) (hm:m<r) (hk:k<c) (hs:s<=8796093022208) (hN:∀ i j,i<r->j<c->Sz s (N i j)) (h0:N m k≠0) (H:∀ rows j,QM rows r c (divM N m k)->(C1 (rows,j)).run P) :
  (W.bind (W.loop (fun (s:(List (List num_Q))×Int)=>qm_M_Reduce.l4 rows0 piv (k:Int) s.1 s.2) (rows0,0)) (Lp.on C1 C2)).run P:=by
 have hq:=(hrows.2 m hm).2 k hk
 have hlen0:=(hrows.2 m hm).1
 refine W.loop_c (fun s':List (List num_Q)×Int=>∃ j:Nat,s'.2=j/\j<=c/\QM s'.1 r c (fun i j'=>if i=m/\j'<j then N m j' / N m k else N i j')) (fun s=>c - s.2.toNat) ⟨0,rfl,Nat.zero_le _,hrows.congr fun i j hi hj=>by rw [if_neg (by omega)]⟩ ?_
 rintro ⟨rows,_⟩ P1 ⟨j,rfl,hj,h1⟩ hgo hbrk hout
 simp only at h1 hgo |-
 have hrl:=h1.1
 have hrow:=h1.2 m hm
 have hlen:=hrow.1
 unfold qm_M_Reduce.l4
 rw [hpl]
 simp only [Int.toNat_natCast,gi_gd,hlen0]
 refine W.run_if (fun c1=>?_) (fun c1=>hbrk _ (H _ _ (h1.congr fun i j' hi hj'=>?_)))
 ·have hcell:=hrow.2 j (by omega)
  simp only [Nat.lt_irrefl,and_false,if_false] at hcell
  refine W.req_i (by omega) (W.req_i (by omega) (W.req_i (by omega) (W.bd (num_Q_Div_run hcell hq ((hN m j hm (by omega)).ok hs) ((hN m k hm hk).ok hs) h0 fun z hz=>W.req_i (by omega) (hgo _ ⟨j+1,by simp,by omega,?_⟩ (by simp;omega))))))
  refine (h1.set (hrow.set hz)).congr fun i j' hi hj'=>?_
  dsimp only
  by_cases e1:i=m
  ·subst e1
   by_cases e2:j'=j
   ·subst e2;simp
   ·have:(j'<j+1) ↔ (j'<j):=by omega
    simp [e2,this]
  ·simp [e1]
 ·obtain rfl:j=c:=by omega
  unfold divM
  by_cases e1:i=m
  ·subst e1;simp [hj']
  ·simp [e1]
theorem qm_elim {rows0:List (List num_Q)} {N:Nat->Nat->Rat} {piv:List Int} {m k:Nat} {C1:List (List num_Q)×Int->W QmC} {C2:qm_M×List Int×num_Q->W QmC} {P:QmC->Prop} {s:Nat}
  (hrows:QM rows0 r c N) (hpl:piv.length=m) (hm:m<r) (hk:k<c) (hs:s+s<=8796093022208) (hN:∀ i j,i<r->j<c->Sz s (N i j)) (H:∀ rows j,QM rows r c (elimM N m k)->(C1 (rows,j)).run P) :
  (W.bind (W.loop (fun (s:(List (List num_Q))×Int)=>qm_M_Reduce.l2 rows0 (k:Int) piv s.1 s.2) (rows0,0)) (Lp.on C1 C2)).run P:=by
 refine W.loop_c (fun s':List (List num_Q)×Int=>∃ i:Nat,s'.2=i/\i<=r/\QM s'.1 r c (fun i' j=>if i'<i then elimM N m k i' j else N i' j)) (fun s=>r - s.2.toNat) ⟨0,rfl,Nat.zero_le _,hrows.congr fun i j hi hj=>by rw [if_neg (by omega)]⟩ ?_
 rintro ⟨rows,_⟩ P1 ⟨i,rfl,hi,h1⟩ hgo hbrk hout
 simp only at h1 hgo |-
 have hrl:=h1.1
 have hr0:=hrows.1
 unfold qm_M_Reduce.l2
 rw [hpl]
 simp only [gi_gd]
 refine W.run_if (fun c1=>?_) (fun c1=>hbrk _ (H _ _ (h1.congr fun i' j hi' hj=>by rw [if_pos (by omega)])))
 have hir:i<r:=by omega
 have hrow:=h1.2 i hir
 have hrl2:=hrow.1
 have hcell:=hrow.2 k hk
 dsimp only at hcell
 rw [if_neg (Nat.lt_irrefl _)] at hcell
 have keep:∀ rows':List (List num_Q),QM rows' r c (fun i' j=>if i'<i+1 then elimM N m k i' j else N i' j)->(qm_M_Reduce.j7 (i:Int) rows').run P1:=fun rows' h=>hgo _ ⟨i+1,by simp,by omega,h⟩ (by simp;omega)
 refine W.req_i (by omega) (W.req_i (by omega) (W.run_if (fun c2=>keep _ (h1.congr fun i' j hi' hj=>?_)) (fun c2=>?_)))
 ·have e0:i=m:=by omega
  by_cases e:i'=i
  ·subst e
   rw [if_neg (Nat.lt_irrefl _),if_pos (Nat.lt_succ_self _)]
   unfold elimM
   rw [if_pos e0,e0]
  ·have:(i'<i+1) ↔ (i'<i):=by omega
   simp only [this]
 refine W.bd (num_Q_IsZero_run hcell (W.run_if (fun c3=>keep _ (h1.congr fun i' j hi' hj=>?_)) (fun c3=>W.req_i (by omega) ?_)))
 ·have hz:=of_decide_eq_true c3
  by_cases e:i'=i
  ·subst e
   rw [if_neg (Nat.lt_irrefl _),if_pos (Nat.lt_succ_self _)]
   unfold elimM
   rw [if_neg (by omega),hz,Rat.zero_mul];grind
  ·have:(i'<i+1) ↔ (i'<i):=by omega
   simp only [this]
 refine W.loop_c (fun s':List (List num_Q)×Int=>∃ j:Nat,s'.2=j/\j<=c/\QM s'.1 r c (fun i' j'=>if i'<i\/i'=i/\j'<j then elimM N m k i' j' else N i' j')) (fun s=>c - s.2.toNat) ⟨0,rfl,Nat.zero_le _,h1.congr fun i' j' hi' hj'=>?_⟩ ?_
 ·by_cases e:i'<i
  ·simp [e]
  ·simp [e]
 rintro ⟨rows2,_⟩ P2 ⟨j,rfl,hj,h2⟩ hgo2 hbrk2 hout2
 simp only at h2 hgo2 |-
 have hrl3:=h2.1
 have hrowi:=h2.2 i hir
 have hrowm:=h2.2 m hm
 have hli:=hrowi.1
 have hlm:=hrowm.1
 unfold qm_M_Reduce.l3
 rw [hpl]
 simp only [gi_gd,hrl2]
 refine W.run_if (fun c4=>?_) (fun c4=>hbrk2 _ (keep _ (h2.congr fun i' j' hi' hj'=>?_)))
 ·have hjc:j<c:=by omega
  have ci:=hrowi.2 j hjc
  have cm:=hrowm.2 j hjc
  have em:(if m<i\/m=i/\j<j then elimM N m k m j else N m j)=N m j:=by
   by_cases e:m<i
   ·rw [if_pos (.inl e)];unfold elimM;rw [if_pos rfl]
   ·rw [if_neg (by omega)]
  have ei:(if i<i\/i=i/\j<j then elimM N m k i j else N i j)=N i j:=by rw [if_neg (by omega)]
  dsimp only at ci cm
  rw [em] at cm
  rw [ei] at ci
  have s1:=hN i k hir hk
  have s2:=hN m j hm hjc
  have s3:=hN i j hir hjc
  refine W.req_i (by omega) (W.req_i (by omega) (W.bd (num_Q_IsZero_run cm (W.run_if (fun c5=>hgo2 _ ⟨j+1,by simp,by omega,?_⟩ (by simp;omega)) (fun c5=>?_)))))
  ·have hz:=of_decide_eq_true c5
   refine h2.congr fun i' j' hi' hj'=>?_
   by_cases e1:i'=i
   ·subst e1
    by_cases e2:j'=j
    ·subst e2
     simp only [Nat.lt_irrefl,false_or,true_and,Nat.lt_succ_self,if_true,if_false]
     unfold elimM
     rw [if_neg (by omega),hz,Rat.mul_zero];grind
    ·have:(j'<j+1) ↔ (j'<j):=by omega
     simp only [this]
   ·simp only [e1,false_and,or_false]
  ·refine W.req_i (by omega) (W.req_i (by omega) (W.req_i (by omega) (W.req_i (by omega) (W.req_i (by omega) (W.bd (num_Q_Mul_run hcell cm (s1.ok (by omega)) (s2.ok (by omega)) fun x hx=>W.bd (num_Q_Sub_run ci hx (s3.ok (by omega)) ((s1.mul s2).ok hs) fun z hz=>W.req_i (by omega) (hgo2 _ ⟨j+1,by simp,by omega,?_⟩ (by simp;omega)))))))))
   simp only [Int.toNat_natCast]
   refine (h2.set (hrowi.set hz)).congr fun i' j' hi' hj'=>?_
   by_cases e1:i'=i
   ·subst e1
    rw [if_pos rfl]
    by_cases e2:j'=j
    ·subst e2
     simp only [if_true,Nat.lt_irrefl,false_or,true_and,Nat.lt_succ_self]
     unfold elimM
     rw [if_neg (by omega)]
    ·have:(j'<j+1) ↔ (j'<j):=by omega
     dsimp only
     rw [if_neg e2]
     simp only [this]
   ·rw [if_neg e1]
    simp only [e1,false_and,or_false]
 ·obtain rfl:j=c:=by omega
  by_cases e:i'=i
  ·subst e;simp [hj']
  ·have:(i'<i+1) ↔ (i'<i):=by omega
   simp [e,this]
theorem qm_Reduce_gen {Z:Nat->(Nat->Nat->Rat)->Prop} {t n:Nat} {d:Int} {x:qm_M} (hC:x.C=d) (hrows:QM x.V r c M) (hn:n<=c) (hc:c<=1000000) (hr:r<=1000000) (ht:4*t<=8796093022208) (hdt:n*t+1<=8796093022208) (hM:Z 0 M) (hZ:Grows r c n t Z) (H:∀ (o:qm_M) piv det M',o.C=d->QM o.V r c M'->Red r c M M' n piv->Z n M'->Q (o,piv,det)):(qm_M_Reduce.f x (n:Int)).run Q:=by
 unfold qm_M_Reduce.f
 refine W.bd (qm_Copy_run hC hrows hr hc fun cp hcp1 hcp2=>W.bd (num_Q_Int_run (by show _/\_;omega) fun one hone=>?_))
 refine W.loop_c (fun s':List (List num_Q)×List Int×num_Q×Int=>∃ (k:Nat) (M':Nat->Nat->Rat) (q:Rat),s'.2.2.2=k/\k<=n/\QM s'.1 r c M'/\Red r c M M' k s'.2.1/\Z k M'/\QRep s'.2.2.1 q/\Sz (k*t+1) q) (fun s=>n - s.2.2.2.toNat) ⟨0,M,1,rfl,Nat.zero_le _,hcp2,Red.init fun _ _ _ _=>rfl,hM,by simpa using hone,Sz.one.mono (by omega)⟩ ?_
 rintro ⟨rows1,piv,det,_⟩ P ⟨k,M1,dq,rfl,hk,h1,h2,h3,hd1,hd2⟩ hgo hbrk hout
 simp only at h1 h2 h3 hd1 hgo |-
 have hrl:=h1.1
 have hple:=h2.le
 unfold qm_M_Reduce.l1
 refine W.run_if (fun c1=>?_) (fun c1=>hbrk _ (by
  obtain rfl:k=n:=by omega
  unfold qm_M_Reduce.j1
  exact H _ _ _ _ hcp1 h1 h2 h3))
 refine W.run_if (fun c0=>?_) (fun c0=>hbrk _ (by
  unfold qm_M_Reduce.j1
  exact H _ _ _ _ hcp1 h1 (h2.fillQ (by omega) hk) (hZ.all hk h3)))
 have hkc:k<c:=by omega
 have hkt:k*t+t<=n*t:=by rw [<- Nat.succ_mul];exact Nat.mul_le_mul_right _ (by omega)
 refine W.loop_c (fun p':Int=>∃ p:Nat,p'=p/\piv.length<=p/\p<=r/\∀ a,piv.length<=a->a<p->M1 a k=0) (fun p=>r - p.toNat) ⟨piv.length,rfl,Nat.le_refl _,hple,fun i h4 h5=>by omega⟩ ?_
 rintro _ P1 ⟨p,rfl,hp1,hp2,hp3⟩ hgo1 hbrk1 hout1
 unfold qm_M_Reduce.l5
 simp only [gi_gd]
 have skip:p=r->(qm_M_Reduce.j3 rows1 (k:Int) piv det (p:Int)).run P:=by
  intro e
  subst e
  unfold qm_M_Reduce.j3
  rw [if_pos (by omega)]
  unfold qm_M_Reduce.j2
  exact hgo _ ⟨k+1,M1,dq,by simp,by omega,h1,h2.skip hp3,hZ.skip (by omega) h3,hd1,hd2.mono (by rw [Nat.succ_mul];omega)⟩ (by simp;omega)
 refine W.run_if (fun c2=>?_) (fun c2=>hbrk1 _ (skip (by omega)))
 have hpr:p<r:=by omega
 have hrow:=h1.2 p hpr
 have hl2:=hrow.1
 refine W.req_i (by omega) (W.req_i (by omega) (W.bd (num_Q_IsZero_run (hrow.2 k hkc) (W.run_if (fun c3=>hgo1 _ ⟨p+1,by simp,by omega,by omega,fun a h4 h5=>?_⟩ (by simp;omega)) (fun c3=>hbrk1 _ ?_)))))
 ·by_cases e:a=p
  ·rw [e];exact of_decide_eq_true c3
  ·exact hp3 a h4 (by omega)
 have hnz:M1 p k≠0:=fun e=>c3 (decide_eq_true e)
 have hm:piv.length<r:=by omega
 have hswk:swapM M1 piv.length p piv.length k≠0:=by unfold swapM;rw [if_pos rfl];exact hnz
 have h3':=hZ.sz hk h3
 have hszS:∀ a j,a<r->j<c->Sz t (swapM M1 piv.length p a j):=by
  intro a j hi hj
  unfold swapM
  split
  ·exact h3' p j hpr hj
  ·split
   ·exact h3' _ j hm hj
   ·exact h3' a j hi hj
 have rest:∀ (rows:List (List num_Q)) (dt:num_Q) (q:Rat),QM rows r c (swapM M1 piv.length p)->QRep dt q->Sz (k*t+1) q->(qm_M_Reduce.j4 piv (k:Int) rows dt).run P:=by
  intro rows dt q hsw hq1 hq2
  have hll:=hsw.1
  have hrowm:=hsw.2 piv.length hm
  have hlm:=hrowm.1
  unfold qm_M_Reduce.j4
  simp only [gi_gd]
  refine W.req_i (by omega) (W.req_i (by omega) (W.bd (num_Q_Mul_run hq1 (hrowm.2 k hkc) (hq2.ok (by omega)) ((hszS _ k hm hkc).ok (by omega)) fun d2 hd2'=>W.req_i (by omega) ?_)))
  refine qm_div hsw rfl hm hkc (by omega) hszS hswk fun rows2 _ hr2=>?_
  unfold qm_M_Reduce.j5
  refine qm_elim (s:=t+t) hr2 rfl hm hkc (by omega) (divM_sz hm hkc hszS hswk) fun rows3 _ hr3=>?_
  unfold qm_M_Reduce.j6 qm_M_Reduce.j2
  exact W.req_i (by omega) (hgo _ ⟨k+1,_,_,by simp,by omega,hr3,h2.step hkc hp1 hpr hnz,hZ.step (by omega) hm hpr hkc h3 hnz,hd2',(hq2.mul (hszS _ k hm hkc)).mono (by rw [Nat.succ_mul];omega)⟩ (by simp;omega))
 unfold qm_M_Reduce.j3
 rw [if_neg (by omega)]
 simp only [Int.toNat_natCast,gi_gd]
 refine W.run_if (fun c4=>?_) (fun c4=>?_)
 ·refine W.req_i (by omega) (W.req_i (by omega) (W.req_i (by omega) (W.req_i (by omega) ?_)))
  unfold qm_M_Reduce.j8
  refine W.bd (num_Q_Neg_run hd1 fun dn hdn=>rest _ _ _ ?_ hdn hd2.neg)
  refine ((h1.set (h1.2 piv.length hm)).set (h1.2 p hpr)).congr fun a j hi hj=>?_
  unfold swapM
  by_cases e2:a=piv.length
  ·rw [if_pos e2,if_pos e2]
  ·rw [if_neg e2,if_neg e2]
   by_cases e:a=p
   ·rw [if_pos e,if_pos e]
   ·rw [if_neg e,if_neg e]
 ·refine rest _ _ _ (h1.congr fun a j hi hj=>?_) hd1 hd2
  have e0:p=piv.length:=by omega
  unfold swapM
  by_cases e2:a=piv.length
  ·rw [if_pos e2,e2,e0]
  ·rw [if_neg e2,if_neg (by omega)]
end
end Go.Proofs.Ytgbmmbfminafnaa.E
