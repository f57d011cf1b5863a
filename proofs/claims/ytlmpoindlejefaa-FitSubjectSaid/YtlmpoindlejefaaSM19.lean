/- Rows brought to the reduced form, and systems solved: what the program does. -/
import Derived.Test.YtlmpoindlejefaaSM18
set_option linter.unusedVariables false
set_option linter.unusedSimpArgs false
namespace Go.Proofs.Ytlmpoindlejefaa.E
open Go Go.RowKit
section
variable {r c:Nat} {M:Nat->Nat->Rat} {Q:List Int×List (List num_Q)->Prop}
theorem reduce_div {rows0:List (List num_Q)} {N:Nat->Nat->Rat} {m p k:Nat} {C1:List (List num_Q)×Int->W (Ctl (List (List num_Q)×List Int×Int×Int) (List Int×List (List num_Q)))} {C2:List Int×List (List num_Q)->W (Ctl (List (List num_Q)×List Int×Int×Int) (List Int×List (List num_Q)))} {P:Ctl (List (List num_Q)×List Int×Int×Int) (List Int×List (List num_Q))->Prop} {s:Nat}
  (hrows:QM ((rows0.set m (gd rows0 p)).set p (gd rows0 m)) r c N) (hm:m<r) (hk:k<c) (hs:s<=8796093022208) (hN:∀ i j,i<r->j<c->Sz s (N i j)) (h0:N m k≠0) (H:∀ rows j,QM rows r c (divM N m k)->(C1 (rows,j)).run P) :
  (W.bind (W.loop (fun (s:(List (List num_Q))×Int)=>fit_reduce.l4 rows0 (m:Int) (p:Int) (k:Int) s.1 s.2) ((rows0.set m (gd rows0 p)).set p (gd rows0 m),0)) (Lp.on C1 C2)).run P:=by
 generalize hsw:(rows0.set m (gd rows0 p)).set p (gd rows0 m)=sw at *
 have hq:=(hrows.2 m hm).2 k hk
 have hlen:(gd sw m).length=c:=(hrows.2 m hm).1
 refine W.loop_c (fun s':List (List num_Q)×Int=>∃ j:Nat,s'.2=j/\j<=c/\QM s'.1 r c (fun i j'=>if i=m/\j'<j then N m j' / N m k else N i j')) (fun s=>c - s.2.toNat) ⟨0,rfl,Nat.zero_le _,hrows.congr fun i j hi hj=>by rw [if_neg (by omega)]⟩ ?_
 rintro ⟨rows,_⟩ P1 ⟨j,rfl,hj,h1⟩ hgo hbrk hout
 simp only at h1 hgo |-
 have hrl:=h1.1
 have hrow:=h1.2 m hm
 unfold fit_reduce.l4
 simp only [Int.toNat_natCast,gi_gd,hsw,hlen]
 refine W.run_if (fun c1=>?_) (fun c1=>hbrk _ (H _ _ (h1.congr fun i j' hi hj'=>?_)))
 ·have hcell:=hrow.2 j (by omega)
  simp only [Nat.lt_irrefl,and_false,if_false] at hcell
  have hrl2:=hrow.1
  refine W.req_i (by omega) (W.req_i (by omega) (W.req_i (by omega) (W.bd (num_Q_Div_run hcell hq ((hN m j hm (by omega)).ok hs) ((hN m k hm hk).ok hs) h0 fun z hz=>W.req_i (by omega) (hgo _ ⟨j+1,by simp,by omega,?_⟩ (by simp;omega))))))
  simp only [Int.toNat_natCast]
  refine (h1.set (hrow.set hz)).congr fun i j' hi hj'=>?_
  dsimp only
  by_cases e1:i=m
  ·subst e1
   by_cases e2:j'=j
   ·subst e2;simp
   ·have:(j'<j+1) ↔ (j'<j):=by omega
    simp [e2,this]
  ·simp [e1]
 ·obtain rfl:j=c:=by omega
  unfold divM
  by_cases e1:i=m
  ·subst e1;simp [hj']
  ·simp [e1]
theorem reduce_elim {rows0:List (List num_Q)} {N:Nat->Nat->Rat} {m k:Nat} {C1:List (List num_Q)×Int->W (Ctl (List (List num_Q)×List Int×Int×Int) (List Int×List (List num_Q)))} {C2:List Int×List (List num_Q)->W (Ctl (List (List num_Q)×List Int×Int×Int) (List Int×List (List num_Q)))} {P:Ctl (List (List num_Q)×List Int×Int×Int) (List Int×List (List num_Q))->Prop} {s:Nat}
  (hrows:QM rows0 r c N) (hm:m<r) (hk:k<c) (hs:s+s<=8796093022208) (hN:∀ i j,i<r->j<c->Sz s (N i j)) (H:∀ rows j,QM rows r c (elimM N m k)->(C1 (rows,j)).run P) :
  (W.bind (W.loop (fun (s:(List (List num_Q))×Int)=>fit_reduce.l2 rows0 (k:Int) (m:Int) s.1 s.2) (rows0,0)) (Lp.on C1 C2)).run P:=by
 refine W.loop_c (fun s':List (List num_Q)×Int=>∃ i:Nat,s'.2=i/\i<=r/\QM s'.1 r c (fun i' j=>if i'<i then elimM N m k i' j else N i' j)) (fun s=>r - s.2.toNat) ⟨0,rfl,Nat.zero_le _,hrows.congr fun i j hi hj=>by rw [if_neg (by omega)]⟩ ?_
 rintro ⟨rows,_⟩ P1 ⟨i,rfl,hi,h1⟩ hgo hbrk hout
 simp only at h1 hgo |-
 have hrl:=h1.1
 have hr0:=hrows.1
 unfold fit_reduce.l2
 simp only [gi_gd]
 refine W.run_if (fun c1=>?_) (fun c1=>hbrk _ (H _ _ (h1.congr fun i' j hi' hj=>by rw [if_pos (by omega)])))
 have hir:i<r:=by omega
 have hrow:=h1.2 i hir
 have hrl2:=hrow.1
 have hcell:=hrow.2 k hk
 dsimp only at hcell
 rw [if_neg (Nat.lt_irrefl _)] at hcell
 have keep:∀ rows':List (List num_Q),QM rows' r c (fun i' j=>if i'<i+1 then elimM N m k i' j else N i' j)->(fit_reduce.j6 (i:Int) rows').run P1:=fun rows' h=>hgo _ ⟨i+1,by simp,by omega,h⟩ (by simp;omega)
 refine W.req_i (by omega) (W.req_i (by omega) (W.run_if (fun c2=>?_) (fun c2=>keep _ (h1.congr fun i' j hi' hj=>?_))))
 ·refine W.bd (num_Q_IsZero_run hcell (W.run_if (fun c3=>keep _ (h1.congr fun i' j hi' hj=>?_)) (fun c3=>W.req_i (by omega) ?_)))
  ·have hz:=of_decide_eq_true c3
   by_cases e:i'=i
   ·subst e
    rw [if_neg (Nat.lt_irrefl _),if_pos (Nat.lt_succ_self _)]
    unfold elimM
    rw [if_neg (by omega),hz,Rat.zero_mul];grind
   ·have:(i'<i+1) ↔ (i'<i):=by omega
    simp only [this]
  ·refine W.loop_c (fun s':List (List num_Q)×Int=>∃ j:Nat,s'.2=j/\j<=c/\QM s'.1 r c (fun i' j'=>if i'<i\/i'=i/\j'<j then elimM N m k i' j' else N i' j')) (fun s=>c - s.2.toNat) ⟨0,rfl,Nat.zero_le _,h1.congr fun i' j' hi' hj'=>?_⟩ ?_
   ·by_cases e:i'<i
    ·simp [e]
    ·simp [e]
   rintro ⟨rows2,_⟩ P2 ⟨j,rfl,hj,h2⟩ hgo2 hbrk2 hout2
   simp only at h2 hgo2 |-
   have hrl3:=h2.1
   have hrowi:=h2.2 i hir
   have hrowm:=h2.2 m hm
   have hli:=hrowi.1
   have hlm:=hrowm.1
   unfold fit_reduce.l3
   simp only [gi_gd]
   refine W.run_if (fun c4=>?_) (fun c4=>hbrk2 _ (keep _ (h2.congr fun i' j' hi' hj'=>?_)))
   ·have hjc:j<c:=by omega
    have ci:=hrowi.2 j hjc
    have cm:=hrowm.2 j hjc
    have em:(if m<i\/m=i/\j<j then elimM N m k m j else N m j)=N m j:=by
     by_cases e:m<i
     ·rw [if_pos (.inl e)];unfold elimM;rw [if_pos rfl]
     ·rw [if_neg (by omega)]
    have ei:(if i<i\/i=i/\j<j then elimM N m k i j else N i j)=N i j:=by rw [if_neg (by omega)]
    dsimp only at ci cm
    rw [em] at cm
    rw [ei] at ci
    have s1:=hN i k hir hk
    have s2:=hN m j hm hjc
    have s3:=hN i j hir hjc
    refine W.req_i (by omega) (W.req_i (by omega) (W.req_i (by omega) (W.req_i (by omega) (W.req_i (by omega) (W.bd (num_Q_Mul_run hcell cm (s1.ok (by omega)) (s2.ok (by omega)) fun x hx=>W.bd (num_Q_Sub_run ci hx (s3.ok (by omega)) ((s1.mul s2).ok hs) fun z hz=>W.req_i (by omega) (hgo2 _ ⟨j+1,by simp,by omega,?_⟩ (by simp;omega))))))))) 
    simp only [Int.toNat_natCast]
    refine (h2.set (hrowi.set hz)).congr fun i' j' hi' hj'=>?_
    dsimp only
    by_cases e1:i'=i
    ·subst e1
     by_cases e2:j'=j
     ·subst e2
      simp only [if_true,Nat.lt_irrefl,false_or,true_and,Nat.lt_succ_self]
      unfold elimM
      rw [if_neg (by omega)]
     ·have:(j'<j+1) ↔ (j'<j):=by omega
      rw [if_pos rfl,if_neg e2]
      simp only [this]
    ·rw [if_neg e1]
     simp only [e1,false_and,or_false]
   ·obtain rfl:j=c:=by omega
    by_cases e:i'=i
    ·subst e;simp [hj']
    ·have:(i'<i+1) ↔ (i'<i):=by omega
     simp [e,this]
 ·have e0:i=m:=by omega
  by_cases e:i'=i
  ·subst e
   rw [if_neg (Nat.lt_irrefl _),if_pos (Nat.lt_succ_self _)]
   unfold elimM
   rw [if_pos e0,e0]
  ·have:(i'<i+1) ↔ (i'<i):=by omega
   simp only [this]
theorem divM_sz {r c s m k:Nat} {N:Nat->Nat->Rat} (hm:m<r) (hk:k<c) (hN:∀ i j,i<r->j<c->Sz s (N i j)) (h0:N m k≠0):∀ i j,i<r->j<c->Sz (s+s) (divM N m k i j):=by
 intro i j hi hj
 unfold divM
 split
 ·exact (hN m j hm hj).div (hN m k hm hk) h0
 ·exact (hN i j hi hj).mono (by omega)
theorem step_sz {r c s m p k:Nat} {M:Nat->Nat->Rat} (hm:m<r) (hp:p<r) (hk:k<c) (hM:∀ i j,i<r->j<c->Sz s (M i j)) (h0:M p k≠0):∀ i j,i<r->j<c->Sz (4*s+1) (elimM (divM (swapM M m p) m k) m k i j):=by
 have hS:∀ i j,i<r->j<c->Sz s (swapM M m p i j):=by
  intro i j hi hj
  unfold swapM
  split
  ·exact hM p j hp hj
  ·split
   ·exact hM m j hm hj
   ·exact hM i j hi hj
 have hSk:swapM M m p m k≠0:=by unfold swapM;rw [if_pos rfl];exact h0
 have hD:=divM_sz hm hk hS hSk
 intro i j hi hj
 unfold elimM
 split
 ·exact (hD m j hm hj).mono (by omega)
 ·rename_i e
  have e1:∀ j,divM (swapM M m p) m k i j=swapM M m p i j:=fun j=>by unfold divM;rw [if_neg e]
  rw [e1,e1]
  exact ((hS i j hi hj).sub ((hS i k hi hk).mul (hD m j hm hj))).mono (by omega)
structure Grows (r c n t:Nat) (Z:Nat->(Nat->Nat->Rat)->Prop):Prop where
 sz:∀ {k N},k<=n->Z k N->∀ i j,i<r->j<c->Sz t (N i j)
 skip:∀ {k N},k<n->Z k N->Z (k+1) N
 step:∀ {k m p N},k<n->m<r->p<r->k<c->Z k N->N p k≠0->Z (k+1) (elimM (divM (swapM N m p) m k) m k)
theorem Grows.all {r c n t:Nat} {Z:Nat->(Nat->Nat->Rat)->Prop} (h:Grows r c n t Z) {k:Nat} {N:Nat->Nat->Rat} (hk:k<=n) (hz:Z k N):Z n N:=by
 obtain ⟨d,rfl⟩:=Nat.exists_eq_add_of_le hk
 have:∀ e,e<=d->Z (k+e) N:=fun e=>by
  induction e with
  | zero=>intro _;exact hz
  | succ e ih=>intro he;exact (show Z (k+e+1) N from h.skip (k:=k+e) (by omega) (ih (by omega)))
 exact this d (Nat.le_refl _)
theorem Grows.szR {r c n s:Nat} :Grows r c n (szR s n) (fun k N=>∀ i j,i<r->j<c->Sz (szR s k) (N i j)) where
 sz hk h i j hi hj:=(h i j hi hj).mono (szR_mono s hk)
 skip _ h i j hi hj:=(h i j hi hj).mono (szR_mono s (Nat.le_succ _))
 step _ hm hp hk h h0:=step_sz hm hp hk h h0
theorem fit_reduce_gen {Z:Nat->(Nat->Nat->Rat)->Prop} {t:Nat} {rows:List (List num_Q)} {n:Nat} (hrows:QM rows r c M) (hn:n<=c) (hc:c<=1000000) (hr:r<=1000000) (ht:4*t<=8796093022208) (hM:Z 0 M) (hZ:Grows r c n t Z) (H:∀ piv rows' M',QM rows' r c M'->Red r c M M' n piv->Z n M'->Q (piv,rows')):(fit_reduce.f rows (n:Int)).run Q:=by
 unfold fit_reduce.f
 refine W.loop_c (fun s':List (List num_Q)×List Int×Int×Int=>∃ (k:Nat) (M':Nat->Nat->Rat),s'.2.2.2=k/\k<=n/\s'.2.2.1=s'.2.1.length/\QM s'.1 r c M'/\Red r c M M' k s'.2.1/\Z k M') (fun s=>n - s.2.2.2.toNat) ⟨0,M,rfl,Nat.zero_le _,rfl,hrows,Red.init fun _ _ _ _=>rfl,hM⟩ ?_
 rintro ⟨rows1,piv,at_,_⟩ P ⟨k,M1,rfl,hk,hat,h1,h2,h3⟩ hgo hbrk hout
 simp only at h1 h2 h3 hgo hat |-
 subst hat
 unfold fit_reduce.l1
 refine W.run_if (fun c1=>?_) (fun c1=>hbrk _ (by
  obtain rfl:k=n:=by omega
  exact H _ _ _ h1 h2 h3))
 have hkc:k<c:=by omega
 have hrl:=h1.1
 have hple:=h2.le
 refine W.loop_c (fun p':Int=>∃ p:Nat,p'=p/\piv.length<=p/\p<=r/\∀ i,piv.length<=i->i<p->M1 i k=0) (fun p=>r - p.toNat) ⟨piv.length,rfl,Nat.le_refl _,hple,fun i h4 h5=>by omega⟩ ?_
 rintro _ P1 ⟨p,rfl,hp1,hp2,hp3⟩ hgo1 hbrk1 hout1
 unfold fit_reduce.l5
 simp only [gi_gd]
 have skip:p=r->(fit_reduce.j3 rows1 (k:Int) piv (piv.length:Int) (p:Int)).run P:=by
  intro e
  subst e
  unfold fit_reduce.j3
  rw [if_pos (by omega)]
  refine hgo _ ⟨k+1,M1,by simp,by omega,rfl,h1,h2.skip hp3,hZ.skip (by omega) h3⟩ (by simp;omega)
 refine W.run_if (fun c2=>?_) (fun c2=>hbrk1 _ (skip (by omega)))
 have hpr:p<r:=by omega
 have hrow:=h1.2 p hpr
 have hl2:=hrow.1
 refine W.req_i (by omega) (W.req_i (by omega) (W.bd (num_Q_IsZero_run (hrow.2 k hkc) (W.run_if (fun c3=>hgo1 _ ⟨p+1,by simp,by omega,by omega,fun i h4 h5=>?_⟩ (by simp;omega)) (fun c3=>hbrk1 _ ?_)))))
 ·by_cases e:i=p
  ·rw [e];exact of_decide_eq_true c3
  ·exact hp3 i h4 (by omega)
 have hnz:M1 p k≠0:=fun e=>c3 (decide_eq_true e)
 have hm:piv.length<r:=by omega
 have hsw:QM ((rows1.set piv.length (gd rows1 p)).set p (gd rows1 piv.length)) r c (swapM M1 piv.length p):=by
  refine ((h1.set (h1.2 p hpr)).set (h1.2 piv.length hm)).congr fun i j hi hj=>?_
  unfold swapM
  by_cases e:i=p
  ·subst e
   by_cases e2:i=piv.length
   ·rw [if_pos rfl,if_pos e2,<- e2]
   ·rw [if_pos rfl,if_neg e2,if_pos rfl]
  ·rw [if_neg e]
   by_cases e2:i=piv.length
   ·rw [if_pos e2,if_pos e2]
   ·rw [if_neg e2,if_neg e2,if_neg e]
 have hswk:swapM M1 piv.length p piv.length k≠0:=by unfold swapM;rw [if_pos rfl];exact hnz
 have h3':=hZ.sz hk h3
 have hszS:∀ i j,i<r->j<c->Sz t (swapM M1 piv.length p i j):=by
  intro i j hi hj
  unfold swapM
  split
  ·exact h3' p j hpr hj
  ·split
   ·exact h3' _ j hm hj
   ·exact h3' i j hi hj
 unfold fit_reduce.j3
 rw [if_neg (by omega)]
 simp only [Int.toNat_natCast,gi_gd]
 have hlm:=(hsw.2 piv.length hm).1
 have hll:=hsw.1
 refine W.req_i (by omega) (W.req_i (by omega) (W.req_i (by omega) (W.req_i (by omega) (W.req_i (by omega) (W.req_i (by omega) (W.req_i (by omega) ?_))))))
 refine reduce_div hsw hm hkc (by omega) hszS hswk fun rows2 _ hr2=>?_
 unfold fit_reduce.j4
 simp only
 refine reduce_elim (s:=t+t) hr2 hm hkc (by omega) (divM_sz hm hkc hszS hswk) fun rows3 _ hr3=>?_
 unfold fit_reduce.j5 fit_reduce.j2
 simp only
 refine W.req_i (by omega) (W.req_i (by show _/\_;omega) (hgo _ ⟨k+1,_,by simp,by omega,by simp,hr3,h2.step hkc hp1 hpr hnz,hZ.step (by omega) hm hpr hkc h3 hnz⟩ (by simp;omega)))
end
end Go.Proofs.Ytlmpoindlejefaa.E
