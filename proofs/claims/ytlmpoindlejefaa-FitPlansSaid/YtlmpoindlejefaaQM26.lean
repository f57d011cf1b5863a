/- The reference: rows brought to the reduced form, systems solved. -/
import Derived.Test.YtlmpoindlejefaaQM25
set_option linter.unusedVariables false
set_option linter.unusedSimpArgs false
namespace Go.Proofs.Ytlmpoindlejefaa.E
open Go Go.RowKit
theorem Red.fill {r c k n:Nat} {M0 M:Nat->Nat->Rat} {piv:List Int} (h:Red r c M0 M k piv) (hl:piv.length=r) (hk:k<=n):Red r c M0 M n piv:=by
 obtain ⟨d,rfl⟩:=Nat.exists_eq_add_of_le hk
 clear hk
 induction d with
 | zero=>exact h
 | succ d ih=>exact ih.skip fun i h1 h2=>by omega
theorem zG7 {a:zp} {x:Rat} {Q:zp->Prop} (ha:RRep a x) (ox:Ok x) (h0:x≠0) (H:∀ z,RRep z (1 / x)->Q z):(zDc.f a).run Q:=by
 unfold zDc.f
 exact W.bd (zEH (n:=1) (by show _/\_;omega) fun u hu=>W.bd (zG8 hu ha ((Sz.one).ok (by omega)) ox h0 fun z hz=>H z (by simpa using hz)))
theorem zH3 (a b:Rat):a*(1 / b)=a / b:=by rw [Rat.div_def,Rat.div_def,Rat.one_mul]
section
variable {r c:Nat} {M:Nat->Nat->Rat} {Q:List (List zp)×List Int->Prop}
theorem ref_div {rows0:List (List zp)} {N:Nat->Nat->Rat} {piv:List Int} {m k:Nat} {y:zp} {C1:List (List zp)×Int->W (Ctl (List (List zp)×List Int×Int) (List (List zp)×List Int))} {C2:List (List zp)×List Int->W (Ctl (List (List zp)×List Int×Int) (List (List zp)×List Int))} {P:Ctl (List (List zp)×List Int×Int) (List (List zp)×List Int)->Prop} {s:Nat}
  (hrows:RM rows0 r c N) (hpl:piv.length=m) (hm:m<r) (hk:k<c) (hs:s+1<=8796093022208) (hN:∀ i j,i<r->j<c->Sz s (N i j)) (h0:N m k≠0) (hy:RRep y (1 / N m k)) (H:∀ rows j,RM rows r c (divM N m k)->(C1 (rows,j)).run P) :
  (W.bind (W.loop (fun (s:(List (List zp))×Int)=>zAH.l4 piv y s.1 s.2) (rows0,0)) (Lp.on C1 C2)).run P:=by
 refine W.loop_c (fun s':List (List zp)×Int=>∃ j:Nat,s'.2=j/\j<=c/\RM s'.1 r c (fun i j'=>if i=m/\j'<j then N m j' / N m k else N i j')) (fun s=>c - s.2.toNat) ⟨0,rfl,Nat.zero_le _,hrows.congr fun i j hi hj=>by rw [if_neg (by omega)]⟩ ?_
 rintro ⟨rows,_⟩ P1 ⟨j,rfl,hj,h1⟩ hgo hbrk hout
 simp only at h1 hgo |-
 have hrl:=h1.1
 have hrow:=h1.2 m hm
 have hlen:=hrow.1
 unfold zAH.l4
 rw [hpl]
 simp only [Int.toNat_natCast,zCE]
 refine W.req_i (by omega) (W.run_if (fun c1=>?_) (fun c1=>hbrk _ (H _ _ (h1.congr fun i j' hi hj'=>?_))))
 ·have hcell:=hrow.2 j (by omega)
  simp only [Nat.lt_irrefl,and_false,if_false] at hcell
  refine W.req_i (by omega) (W.req_i (by omega) (W.req_i (by omega) (W.bd (zCt hcell hy ((hN m j hm (by omega)).ok (by omega)) (((Sz.one).div (hN m k hm hk) h0).ok (by omega)) fun z hz=>W.req_i (by omega) (hgo _ ⟨j+1,by simp,by omega,?_⟩ (by simp;omega))))))
  simp only [Int.toNat_natCast]
  rw [zH3] at hz
  refine (h1.set (hrow.set hz)).congr fun i j' hi hj'=>?_
  dsimp only
  by_cases e1:i=m
  ·subst e1
   by_cases e2:j'=j
   ·subst e2;simp
   ·have:(j'<j+1) ↔ (j'<j):=by omega
    simp [e2,this]
  ·simp [e1]
 ·obtain rfl:j=c:=by omega
  unfold divM
  by_cases e1:i=m
  ·subst e1;simp [hj']
  ·simp [e1]
theorem ref_elim {rows0:List (List zp)} {N:Nat->Nat->Rat} {piv:List Int} {m k:Nat} {C1:List (List zp)×Int->W (Ctl (List (List zp)×List Int×Int) (List (List zp)×List Int))} {C2:List (List zp)×List Int->W (Ctl (List (List zp)×List Int×Int) (List (List zp)×List Int))} {P:Ctl (List (List zp)×List Int×Int) (List (List zp)×List Int)->Prop} {s:Nat}
  (hrows:RM rows0 r c N) (hpl:piv.length=m) (hm:m<r) (hk:k<c) (hs:s+s<=8796093022208) (hN:∀ i j,i<r->j<c->Sz s (N i j)) (H:∀ rows j,RM rows r c (elimM N m k)->(C1 (rows,j)).run P) :
  (W.bind (W.loop (fun (s:(List (List zp))×Int)=>zAH.l2 (k:Int) piv s.1 s.2) (rows0,0)) (Lp.on C1 C2)).run P:=by
 refine W.loop_c (fun s':List (List zp)×Int=>∃ i:Nat,s'.2=i/\i<=r/\RM s'.1 r c (fun i' j=>if i'<i then elimM N m k i' j else N i' j)) (fun s=>r - s.2.toNat) ⟨0,rfl,Nat.zero_le _,hrows.congr fun i j hi hj=>by rw [if_neg (by omega)]⟩ ?_
 rintro ⟨rows,_⟩ P1 ⟨i,rfl,hi,h1⟩ hgo hbrk hout
 simp only at h1 hgo |-
 have hrl:=h1.1
 unfold zAH.l2
 simp only [zCE]
 refine W.run_if (fun c1=>?_) (fun c1=>hbrk _ (H _ _ (h1.congr fun i' j hi' hj=>by rw [if_pos (by omega)])))
 have hir:i<r:=by omega
 have hrow:=h1.2 i hir
 have hrl2:=hrow.1
 have hcell:=hrow.2 k hk
 dsimp only at hcell
 rw [if_neg (Nat.lt_irrefl _)] at hcell
 have keep:∀ rows':List (List zp),RM rows' r c (fun i' j=>if i'<i+1 then elimM N m k i' j else N i' j)->(zAH.j7 (i:Int) rows').run P1:=fun rows' h=>hgo _ ⟨i+1,by simp,by omega,h⟩ (by simp;omega)
 refine W.req_i (by omega) (W.req_i (by omega) ?_)
 refine W.loop_c (fun s':List (List zp)×Int=>∃ j:Nat,s'.2=j/\j<=c/\RM s'.1 r c (fun i' j'=>if i'<i\/i'=i/\j'<j then elimM N m k i' j' else N i' j')) (fun s=>c - s.2.toNat) ⟨0,rfl,Nat.zero_le _,h1.congr fun i' j' hi' hj'=>?_⟩ ?_
 ·by_cases e:i'<i
  ·simp [e]
  ·simp [e]
 rintro ⟨rows2,_⟩ P2 ⟨j,rfl,hj,h2⟩ hgo2 hbrk2 hout2
 simp only at h2 hgo2 |-
 have hrl3:=h2.1
 have hrowi:=h2.2 i hir
 have hrowm:=h2.2 m hm
 have hli:=hrowi.1
 have hlm:=hrowm.1
 have same:(∀ j',j'<c->elimM N m k i j'=N i j')->RM rows2 r c (fun i' j=>if i'<i+1 then elimM N m k i' j else N i' j):=fun hs=>h2.congr fun i' j' hi' hj'=>by
  by_cases e:i'=i
  ·subst e
   rw [if_pos (Nat.lt_succ_self _),hs j' hj']
   split
   ·rfl
   ·rfl
  ·have:(i'<i+1) ↔ (i'<i):=by omega
   simp [e,this]
 unfold zAH.l3
 rw [hpl]
 simp only [zCE]
 refine W.req_i (by omega) (W.run_if (fun c4=>?_) (fun c4=>hbrk2 _ (keep _ (h2.congr fun i' j' hi' hj'=>?_))))
 ·refine W.run_if (fun c2=>W.bd (zDM hcell (W.run_if (fun c3=>hbrk2 _ (keep _ (same fun j' hj'=>?_))) (fun c3=>?_)))) (fun c2=>hbrk2 _ (keep _ (same fun j' hj'=>?_)))
  ·have hz:=of_decide_eq_true c3
   unfold elimM
   rw [if_neg (by omega),hz,Rat.zero_mul];grind
  ·have hjc:j<c:=by omega
   have ci:=hrowi.2 j hjc
   have cm:=hrowm.2 j hjc
   have em:(if m<i\/m=i/\j<j then elimM N m k m j else N m j)=N m j:=by
    by_cases e:m<i
    ·rw [if_pos (.inl e)];unfold elimM;rw [if_pos rfl]
    ·rw [if_neg (by omega)]
   have ei:(if i<i\/i=i/\j<j then elimM N m k i j else N i j)=N i j:=by rw [if_neg (by omega)]
   dsimp only at ci cm
   rw [em] at cm
   rw [ei] at ci
   have s1:=hN i k hir hk
   have s2:=hN m j hm hjc
   have s3:=hN i j hir hjc
   refine W.req_i (by omega) (W.req_i (by omega) (W.req_i (by omega) (W.req_i (by omega) (W.req_i (by omega) (W.bd (zCt hcell cm (s1.ok (by omega)) (s2.ok (by omega)) fun x hx=>W.bd (zEF ci hx (s3.ok (by omega)) ((s1.mul s2).ok hs) fun z hz=>W.req_i (by omega) (hgo2 _ ⟨j+1,by simp,by omega,?_⟩ (by simp;omega)))))))))
   simp only [Int.toNat_natCast]
   refine (h2.set (hrowi.set hz)).congr fun i' j' hi' hj'=>?_
   dsimp only
   by_cases e1:i'=i
   ·subst e1
    by_cases e2:j'=j
    ·subst e2
     simp only [if_true,Nat.lt_irrefl,false_or,true_and,Nat.lt_succ_self]
     unfold elimM
     rw [if_neg (by omega)]
    ·have:(j'<j+1) ↔ (j'<j):=by omega
     rw [if_pos rfl,if_neg e2]
     simp only [this]
   ·rw [if_neg e1]
    simp only [e1,false_and,or_false]
  ·have e0:i=m:=by omega
   unfold elimM
   rw [if_pos e0,e0]
 ·obtain rfl:j=c:=by omega
  by_cases e:i'=i
  ·subst e;simp [hj']
  ·have:(i'<i+1) ↔ (i'<i):=by omega
   simp [e,this]
theorem zFg {Z:Nat->(Nat->Nat->Rat)->Prop} {t:Nat} {rows:List (List zp)} {n:Nat} (hrows:RM rows r c M) (hn:n<=c) (hc:c<=1000000) (hr:r<=1000000) (ht:4*t<=8796093022208) (hM:Z 0 M) (hZ:Grows r c n t Z) (H:∀ piv rows' M',RM rows' r c M'->Red r c M M' n piv->Z n M'->Q (rows',piv)):(zAH.f rows (n:Int)).run Q:=by
 have hrl0:=hrows.1
 unfold zAH.f
 rw [hrl0,Int.toNat_natCast]
 refine W.req_i (by omega) ?_
 refine W.loop_c (fun s':List (List zp)×Int=>∃ i:Nat,s'.2=i/\i<=r/\s'.1.length=r/\∀ j,j<i->RL (gd s'.1 j) c (M j)) (fun s=>r - s.2.toNat) ⟨0,rfl,Nat.zero_le _,by simp,fun j hj=>by omega⟩ ?_
 rintro ⟨cp,_⟩ P0 ⟨i,rfl,hi,h1,h2⟩ hgo0 hbrk0 hout0
 simp only at h1 h2 hgo0 |-
 unfold zAH.l6
 rw [hrl0]
 simp only [zCE]
 refine W.run_if (fun c1=>?_) (fun c1=>hbrk0 _ ?_)
 ·have hrow:=hrows.2 i (by omega)
  have hl2:=hrow.1
  refine W.req_i (by omega) (W.req_i (by omega) (W.req_i (by omega) (hgo0 _ ⟨i+1,by simp,by omega,by simp [h1],fun j hj=>?_⟩ (by simp;omega))))
  simp only [Int.toNat_natCast]
  rw [zCz]
  by_cases e:i=j
  ·subst e;rw [if_pos ⟨rfl,by omega⟩];exact hrow
  ·rw [if_neg (by omega)];exact h2 j (by omega)
 obtain rfl:i=r:=by omega
 have hcp:RM cp i c M:=⟨h1,h2⟩
 clear hgo0 hbrk0 hout0 h1 h2 c1 hi
 unfold zAH.j1
 refine W.loop_c (fun s':List (List zp)×List Int×Int=>∃ (k:Nat) (M':Nat->Nat->Rat),s'.2.2=k/\k<=n/\RM s'.1 i c M'/\Red i c M M' k s'.2.1/\Z k M') (fun s=>n - s.2.2.toNat) ⟨0,M,rfl,Nat.zero_le _,hcp,Red.init fun _ _ _ _=>rfl,hM⟩ ?_
 rintro ⟨rows1,piv,_⟩ P ⟨k,M1,rfl,hk,h1,h2,h3⟩ hgo hbrk hout
 simp only at h1 h2 h3 hgo |-
 have hrl:=h1.1
 have hple:=h2.le
 unfold zAH.l1
 refine W.run_if (fun c1=>?_) (fun c1=>hbrk _ (by
  obtain rfl:k=n:=by omega
  exact H _ _ _ h1 h2 h3))
 refine W.run_if (fun c0=>?_) (fun c0=>hbrk _ (H _ _ _ h1 (h2.fill (by omega) hk) (hZ.all hk h3)))
 have hkc:k<c:=by omega
 refine W.loop_c (fun p':Int=>∃ p:Nat,p'=p/\piv.length<=p/\p<=i/\∀ a,piv.length<=a->a<p->M1 a k=0) (fun p=>i - p.toNat) ⟨piv.length,rfl,Nat.le_refl _,hple,fun i h4 h5=>by omega⟩ ?_
 rintro _ P1 ⟨p,rfl,hp1,hp2,hp3⟩ hgo1 hbrk1 hout1
 unfold zAH.l5
 simp only [zCE]
 have skip:p=i->(zAH.j4 rows1 (k:Int) piv (p:Int)).run P:=by
  intro e
  subst e
  unfold zAH.j4
  rw [if_pos (by omega)]
  unfold zAH.j3
  refine hgo _ ⟨k+1,M1,by simp,by omega,h1,h2.skip hp3,hZ.skip (by omega) h3⟩ (by simp;omega)
 refine W.run_if (fun c2=>?_) (fun c2=>hbrk1 _ (skip (by omega)))
 have hpr:p<i:=by omega
 have hrow:=h1.2 p hpr
 have hl2:=hrow.1
 refine W.req_i (by omega) (W.req_i (by omega) (W.bd (zDM (hrow.2 k hkc) (W.run_if (fun c3=>hgo1 _ ⟨p+1,by simp,by omega,by omega,fun a h4 h5=>?_⟩ (by simp;omega)) (fun c3=>hbrk1 _ ?_)))))
 ·by_cases e:a=p
  ·rw [e];exact of_decide_eq_true c3
  ·exact hp3 a h4 (by omega)
 have hnz:M1 p k≠0:=fun e=>c3 (decide_eq_true e)
 have hm:piv.length<i:=by omega
 have hsw:RM ((rows1.set piv.length (gd rows1 p)).set p (gd rows1 piv.length)) i c (swapM M1 piv.length p):=by
  refine ((h1.set (h1.2 p hpr)).set (h1.2 piv.length hm)).congr fun a j hi hj=>?_
  unfold swapM
  by_cases e:a=p
  ·subst e
   by_cases e2:a=piv.length
   ·rw [if_pos rfl,if_pos e2,<- e2]
   ·rw [if_pos rfl,if_neg e2,if_pos rfl]
  ·rw [if_neg e]
   by_cases e2:a=piv.length
   ·rw [if_pos e2,if_pos e2]
   ·rw [if_neg e2,if_neg e2,if_neg e]
 have hswk:swapM M1 piv.length p piv.length k≠0:=by unfold swapM;rw [if_pos rfl];exact hnz
 have h3':=hZ.sz hk h3
 have hszS:∀ a j,a<i->j<c->Sz t (swapM M1 piv.length p a j):=by
  intro a j hi hj
  unfold swapM
  split
  ·exact h3' p j hpr hj
  ·split
   ·exact h3' _ j hm hj
   ·exact h3' a j hi hj
 unfold zAH.j4
 rw [if_neg (by omega)]
 simp only [Int.toNat_natCast,zCE]
 have hlm:=(hsw.2 piv.length hm).1
 have hll:=hsw.1
 refine W.req_i (by omega) (W.req_i (by omega) (W.req_i (by omega) (W.req_i (by omega) (W.req_i (by omega) (W.req_i (by omega) (W.bd (zG7 ((hsw.2 piv.length hm).2 k hkc) ((hszS _ k hm hkc).ok (by omega)) hswk fun y hy=>?_)))))))
 refine ref_div hsw rfl hm hkc (by omega) hszS hswk hy fun rows2 _ hr2=>?_
 unfold zAH.j5
 refine ref_elim (s:=t+t) hr2 rfl hm hkc (by omega) (zH6 hm hkc hszS hswk) fun rows3 _ hr3=>?_
 unfold zAH.j6 zAH.j3
 simp only
 refine W.req_i (by omega) (hgo _ ⟨k+1,_,by simp,by omega,hr3,h2.step hkc hp1 hpr hnz,hZ.step (by omega) hm hpr hkc h3 hnz⟩ (by simp;omega))
end
end Go.Proofs.Ytlmpoindlejefaa.E
