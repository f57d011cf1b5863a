/- Joined. -/
import Derived.Test.YtbjnmmgnonldnaaKF11
set_option linter.unusedVariables false
set_option linter.unusedSimpArgs false
namespace Go.Proofs.Ytbjnmmgnonldnaa.E
open Go Go.RowKit
end Go.Proofs.Ytbjnmmgnonldnaa.E
namespace Go.Proofs.Ytbjnmmgnonldnaa.E
open Go Go.RowKit
theorem Same_run {a b:List Int} {Q:Bool->Prop} (H0:a=b->Q true) (H1:a≠b->Q false):(ref14_Same.f a b).run Q:=by
 unfold ref14_Same.f
 refine W.loop_c (fun p=>∃ t:Nat,p=t/\t<=a.length/\t<=b.length/\∀ j,j<t->gd a j=gd b j) (fun p=>a.length - p.toNat) ⟨0,rfl,Nat.zero_le _,Nat.zero_le _,fun j hj=>by omega⟩ ?_
 rintro _ P ⟨t,rfl,ht,ht2,hj⟩ hgo hbrk hout
 unfold ref14_Same.l1
 simp only [gi_gd]
 have done: ¬ (t<a.length/\t<b.length)->P (.brk (t:Int)):=fun h=>hbrk _ (by
  unfold ref14_Same.j1
  show Q _
  by_cases e:a.length=b.length
  ·rw [decide_eq_true (by omega)]
   exact H0 (list_gd_ext e fun k hk=>hj k (by omega))
  ·rw [decide_eq_false (by omega)]
   exact H1 fun g=>e (by rw [g]))
 refine W.run_if (fun c=>W.run_if (fun c2=>W.req_i (by omega) (W.req_i (by omega) (W.run_if (fun c3=>hout _ (H1 fun g=>c3 (by rw [g]))) fun c3=>hgo _ ⟨t+1,by simp,by omega,by omega,fun j hj'=>?_⟩ (by simp;omega)))) fun c2=>done (by omega)) fun c=>done (by omega)
 by_cases e:j=t
 ·rw [e];exact Decidable.not_not.1 c3
 ·exact hj j (by omega)
theorem SameAll_run {a b:List (List Int)} {Q:Bool->Prop} (H0:a=b->Q true) (H1:a≠b->Q false):(ref14_SameAll.f a b).run Q:=by
 unfold ref14_SameAll.f
 refine W.loop_c (fun p=>∃ t:Nat,p=t/\t<=a.length/\t<=b.length/\∀ j,j<t->gd a j=gd b j) (fun p=>a.length - p.toNat) ⟨0,rfl,Nat.zero_le _,Nat.zero_le _,fun j hj=>by omega⟩ ?_
 rintro _ P ⟨t,rfl,ht,ht2,hj⟩ hgo hbrk hout
 unfold ref14_SameAll.l1
 simp only [gi_gd]
 have done: ¬ (t<a.length/\t<b.length)->P (.brk (t:Int)):=fun h=>hbrk _ (by
  unfold ref14_SameAll.j1
  show Q _
  by_cases e:a.length=b.length
  ·rw [decide_eq_true (by omega)]
   exact H0 (list_gd_ext e fun k hk=>hj k (by omega))
  ·rw [decide_eq_false (by omega)]
   exact H1 fun g=>e (by rw [g]))
 refine W.run_if (fun c=>W.run_if (fun c2=>W.req_i (by omega) (W.req_i (by omega) (W.bd (Same_run (fun g=>W.run_if (fun _=>hgo _ ⟨t+1,by simp,by omega,by omega,fun j hj'=>?_⟩ (by simp;omega)) fun c=>absurd rfl c) fun g=>W.run_if (fun c=>by cases c) fun _=>hout _ (H1 fun k=>g (by rw [k])))))) fun c2=>done (by omega)) fun c=>done (by omega)
 by_cases e:j=t
 ·rw [e];exact g
 ·exact hj j (by omega)
end Go.Proofs.Ytbjnmmgnonldnaa.E
namespace Go.Proofs.Ytbjnmmgnonldnaa.E
open Go Go.RowKit
theorem zr_in {E:Nat->List Nat} {n i:Nat} {row col:Nat->Option Nat} {Rs S:Nat->Prop} (hc:Cls E col Rs S) (hu:∀ r,r<n->row r=none->Rs r) (hi:Zr E n row col i):Rs i:=by
 obtain ⟨j,h1,h2,h3⟩:=hi
 induction h3 with
 | refl=>exact hu j h1 h2
 | step _ a b ih=>
  obtain ⟨r,g1,g2⟩:=hc.own _ (hc.nb _ _ ih a)
  rw [b] at g2
  exact Option.some.inj g2 ▸ g1
open Classical in
theorem no_od {L:List (List Int)} {c:Nat} (hR:Rws L c) (f:Nat->Nat) (hf:∀ i,i<L.length->f i ∈ Ef L i) (inj:∀ i j,i<L.length->j<L.length->f i=f j->i=j) (i:Nat): ¬ Od L i:=fun h=>by
 have M:Mch (Ef L) L.length (fun r=>if r<L.length then some (f r) else none) (fun k=>if h:∃ r,r<L.length/\f r=k then some h.choose else none):=by
  refine ⟨⟨fun r k=>⟨fun g=>?_,fun g=>?_⟩,fun r k g=>?_⟩,fun r hr=>if_neg (by omega),fun _=>False,fun _=>False,⟨fun _ _ h=>h.elim,fun _ h=>h.elim⟩,fun _ h=>h.elim,fun r hr g=>?_⟩
  ·skip
   split at g
   ·rename_i hr
    have e:=Option.some.inj g
    have hx:∃ r,r<L.length/\f r=k:=⟨r,hr,e⟩
    rw [dif_pos hx,inj _ r hx.choose_spec.1 hr (hx.choose_spec.2.trans e.symm)]
   ·cases g
  ·skip
   split at g
   ·rename_i hx
    have e:=Option.some.inj g
    rw [<- e,if_pos hx.choose_spec.1,hx.choose_spec.2]
   ·cases g
  ·skip
   split at g
   ·rename_i hr
    rw [<- Option.some.inj g];exact hf r hr
   ·cases g
  ·simp only [if_pos hr] at g;cases g
 obtain ⟨j,h1,h2,_⟩:=(Od.iff hR M).2 h
 simp only [if_pos h1] at h2;cases h2
def d0:api_Diag:=⟨⟨3,2,[[0],[0],[0,1]]⟩,[]⟩
theorem d0_ok:DiagOk d0:=by
 refine ⟨⟨by decide,by decide,by decide,by decide,rfl,fun r hr=>?_⟩,by decide,by decide,fun i hi=>absurd hi (Nat.not_lt_zero _)⟩
 have:r=0\/r=1\/r=2:=by have:r<3:=hr;omega
 rcases this with rfl | rfl | rfl
 ·intro t ht;have:t=0:=by have:t<1:=ht;omega
  subst this;decide
 ·intro t ht;have:t=0:=by have:t<1:=ht;omega
  subst this;decide
 ·intro t ht;have:t=0\/t=1:=by have:t<2:=ht;omega
  rcases this with rfl | rfl <;> decide
theorem d0_rws {s:List Int} (h:Se 3 s):Rws (pick d0.M s) 2:=pick_rws d0_ok.m rfl h
theorem se_of {l:List Int} (h:l.Pairwise (· < ·)) (h2:∀ x,x ∈ l->0<=x/\x<3):Se 3 l:=⟨h,h2⟩
theorem mch3:Mch (Ef [[0],[0],[0,1]]) 3 (fun r=>if r=0 then some 0 else if r=2 then some 1 else none) (fun k=>if k=0 then some 0 else if k=1 then some 2 else none):=by
 refine ⟨⟨fun r k=>?_,fun r k g=>?_⟩,fun r hr=>by rw [if_neg (by omega),if_neg (by omega)],fun r=>r=0\/r=1,fun k=>k=0,⟨fun r k h hk=>?_,fun k h=>⟨0,.inl rfl,by simp [h]⟩⟩,fun r h=>by omega,fun r hr g=>?_⟩
 ·skip
  by_cases h0:r=0
  ·rw [if_pos h0];by_cases k0:k=0
   ·simp [h0,k0]
   ·rw [if_neg k0];split <;> simp [h0] <;> omega
  ·rw [if_neg h0];by_cases h2:r=2
   ·rw [if_pos h2];by_cases k0:k=0
    ·simp [h2,k0]
    ·rw [if_neg k0];split <;> simp [h2] <;> omega
   ·rw [if_neg h2];split
    ·simp;omega
    ·split
     ·simp;omega
     ·simp
 ·skip
  split at g
  ·rename_i e;subst e;rw [<- Option.some.inj g];decide
  ·split at g
   ·rename_i e;subst e;rw [<- Option.some.inj g];decide
   ·cases g
 ·rcases h with rfl | rfl
  ·have:k ∈ [0]:=hk
   simpa using this
  ·have:k ∈ [0]:=hk
   simpa using this
 ·skip
  split at g
  ·cases g
  ·split at g
   ·cases g
   ·omega
theorem od3 {i:Nat} :Od [[0],[0],[0,1]] i ↔ i=0\/i=1:=by
 have hR:Rws [[0],[0],[0,1]] 2:=d0_rws (s:=[0,1,2]) (se_of (by decide) (by decide))
 rw [<- Od.iff hR mch3]
 constructor
 ·exact zr_in (Rs:=fun r=>r=0\/r=1) (S:=fun k=>k=0) ⟨fun r k h hk=>by
   rcases h with rfl | rfl
   ·have:k ∈ [0]:=hk
    simpa using this
   ·have:k ∈ [0]:=hk
    simpa using this,fun k h=>⟨0,.inl rfl,by simp [h]⟩⟩ fun r hr g=>by
   split at g
   ·cases g
   ·split at g
    ·cases g
    ·have:r<3:=hr
     omega
 ·have z1:Zr (Ef [[0],[0],[0,1]]) 3 (fun r=>if r=0 then some 0 else if r=2 then some 1 else none) (fun k=>if k=0 then some 0 else if k=1 then some 2 else none) 1:=⟨1,by omega,rfl,.refl⟩
  rintro (rfl | rfl)
  ·exact z1.step (k:=0) (by decide) rfl
  ·exact z1
theorem oc3 {k:Nat} :Oc [[0],[0],[0,1]] k ↔ k=0:=by
 constructor
 ·rintro ⟨i,h1,h2⟩
  rcases od3.1 h1 with rfl | rfl
  ·have:k ∈ [0]:=h2
   simpa using this
  ·have:k ∈ [0]:=h2
   simpa using this
 ·rintro rfl;exact ⟨0,od3.2 (.inl rfl),by decide⟩
open Classical in
theorem over3:overV (pick d0.M [0,1,2]) 2 [0,1,2] =([0,1],1):=by
 have e:pick d0.M [0,1,2] = [[0],[0],[0,1]]:=rfl
 unfold overV
 rw [e]
 have a:((List.range 3).filter fun t=>decide (Od [[0],[0],[0,1]] t))= [0,1]:=by
  rw [List.filter_congr (q:=fun t=>decide (t=0\/t=1)) fun t _=>by rw [decide_eq_decide];exact od3]
  rw [show List.range 3= [0,1,2] from rfl]
  simp
 have b:((List.range 2).filter fun k=>decide (Oc [[0],[0],[0,1]] k))= [0]:=by
  rw [List.filter_congr (q:=fun k=>decide (k=0)) fun t _=>by rw [decide_eq_decide];exact oc3]
  rw [show List.range 2= [0,1] from rfl]
  simp
 show (List.map _ ((List.range 3).filter _),_)=_
 rw [a,b];rfl
theorem od2 {i:Nat} (hi:i<2):Od [[0],[0]] i:=by
 have hR:Rws [[0],[0]] 2:=d0_rws (s:=[0,1]) (se_of (by decide) (by decide))
 have M:Mch (Ef [[0],[0]]) 2 (fun r=>if r=0 then some 0 else none) (fun k=>if k=0 then some 0 else none):=by
  refine ⟨⟨fun r k=>?_,fun r k g=>?_⟩,fun r hr=>by rw [if_neg (by omega)],fun r=>r=0\/r=1,fun k=>k=0,⟨fun r k h hk=>?_,fun k h=>⟨0,.inl rfl,by simp [h]⟩⟩,fun r h=>by omega,fun r hr g=>by omega⟩
  ·skip
   by_cases h0:r=0
   ·rw [if_pos h0];by_cases k0:k=0
    ·simp [h0,k0]
    ·rw [if_neg k0];simp;omega
   ·rw [if_neg h0];split
    ·simp;omega
    ·simp
  ·skip
   split at g
   ·rename_i e;subst e;rw [<- Option.some.inj g];decide
   ·cases g
  ·rcases h with rfl | rfl
   ·have:k ∈ [0]:=hk
    simpa using this
   ·have:k ∈ [0]:=hk
    simpa using this
 have z1:Zr (Ef [[0],[0]]) 2 (fun r=>if r=0 then some 0 else none) (fun k=>if k=0 then some 0 else none) 1:=⟨1,by omega,rfl,.refl⟩
 refine (Od.iff hR M).1 ?_
 rcases (by omega:i=0\/i=1) with rfl | rfl
 ·exact z1.step (k:=0) (by decide) rfl
 ·exact z1
theorem lst3:lst d0.M [0,1,2] = [[0,1]]:=by
 have s10:Se 10 [0,1,2]:=⟨by decide,by decide⟩
 have T:Tst d0.M [0,1]:=⟨by decide,fun t ht=>od2 ht⟩
 have N1:∀ i:Int,Se 3 [i]->(gi d0.M.E i).length≠0->¬ Tst d0.M [i]:=fun i hs hl h=>by
  have hz:∀ L:List Int,L.length≠0->(L.map Int.toNat).headD 0 ∈ Ef [L] 0:=fun L hL=>by
   cases L with
   | nil=>exact absurd rfl hL
   | cons a L=>exact List.mem_cons_self ..
  exact no_od (d0_rws hs) (fun _=>((gi d0.M.E i).map Int.toNat).headD 0) (fun j hj=>by
   have:j<1:=hj
   obtain rfl:j=0:=by omega
   exact hz _ hl) (fun a b ha hb _=>by
   have:a<1:=ha
   have:b<1:=hb
   omega) 0 (h.2 0 (Nat.zero_lt_succ _))
 have N2:∀ i:Int,i=0\/i=1->¬ Tst d0.M [i,2]:=fun i hi h=>by
  have hs:Se 3 [i,2]:=by rcases hi with rfl | rfl <;> exact ⟨by decide,by decide⟩
  exact no_od (d0_rws hs) (fun j=>j) (fun j hj=>by
   have:j<2:=hj
   rcases hi with rfl | rfl <;> rcases (by omega:j=0\/j=1) with rfl | rfl <;> decide) (fun a b _ _ h=>h) 0 (h.2 0 (Nat.zero_lt_succ _))
 have al:alls [0,1,2] = [[0],[1],[2],[0,1],[0,2],[1,2],[0,1,2]]:=by decide
 refine sorted_ext (R:=Lt) (fun a b h1 h2=>by unfold Lt at *;omega) (lst_pw s10) (List.pairwise_singleton _ _) fun x=>?_
 rw [lst_mem s10,List.mem_singleton]
 constructor
 ·rintro ⟨h1,h2,h3⟩
  have:=mem_alls.2 ⟨h1,h2.1⟩
  rw [al] at this
  simp only [List.mem_cons,List.not_mem_nil,or_false] at this
  rcases this with rfl | rfl | rfl | rfl | rfl | rfl | rfl
  ·exact absurd h2 (N1 0 (se_of (by decide) (by decide)) (by decide))
  ·exact absurd h2 (N1 1 (se_of (by decide) (by decide)) (by decide))
  ·exact absurd h2 (N1 2 (se_of (by decide) (by decide)) (by decide))
  ·rfl
  ·exact absurd h2 (N2 0 (.inl rfl))
  ·exact absurd h2 (N2 1 (.inr rfl))
  ·exact (h3 [0,1] (by decide) T (by decide)).symm
 ·rintro rfl
  refine ⟨by decide,T,fun o ho ht hs=>?_⟩
  have:=mem_alls.2 ⟨ho,ht.1⟩
  rw [al] at this
  simp only [List.mem_cons,List.not_mem_nil,or_false] at this
  rcases this with rfl | rfl | rfl | rfl | rfl | rfl | rfl
  ·exact absurd ht (N1 0 (se_of (by decide) (by decide)) (by decide))
  ·exact absurd ht (N1 1 (se_of (by decide) (by decide)) (by decide))
  ·exact absurd hs (by decide)
  ·rfl
  ·exact absurd hs (by decide)
  ·exact absurd hs (by decide)
  ·exact absurd hs (by decide)
theorem known_run {Q:Bool->Prop} (H:Q true):(law28_known.f).run Q:=by
 unfold law28_known.f
 refine W.bd (fault_Redundant_run (d:=d0) d0_ok fun o ho=>?_)
 have ho:o=([0,1],1):=ho.trans over3
 subst ho
 refine W.bd (fault_Tests_run (d:=d0) fun e he=>?_)
 obtain rfl:e=0:=he.uniq (.inl ⟨rfl,d0_ok⟩)
 have:tsV d0 5 0=([[0,1]],false,0):=by
  unfold tsV
  rw [if_neg (by decide),if_neg (by decide)]
  show (if (5:Int)<((lst d0.M [0,1,2]).length:Int) then _ else (lst d0.M [0,1,2],false,(0:Int)))=_
  rw [lst3];rfl
 rw [this]
 refine W.bd (Same_run (fun _=>W.run_if (fun _=>W.run_if (fun _=>W.run_if (fun _=>W.bd (SameAll_run (fun _=>W.run_if (fun _=>W.run_if (fun c=>by cases c) fun _=>?_) fun c=>absurd rfl c) fun g=>absurd rfl g)) fun c=>absurd rfl c) fun c=>absurd rfl c) fun c=>absurd rfl c) fun g=>absurd rfl g)
 exact H
end Go.Proofs.Ytbjnmmgnonldnaa.E
