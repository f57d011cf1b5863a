/- Joined. -/
import Derived.Test.YtgbmmbfminafnaaKC13
set_option linter.unusedVariables false
set_option linter.unusedSimpArgs false
namespace Go.Proofs.Ytgbmmbfminafnaa.E
open Go Go.RowKit
theorem Cn.more {es es':List (Nat×Nat)} {m k:Nat} (h:Cn es m k) (hs:∀ e ∈ es,e ∈ es'):Cn es' m k:=by
 induction h with
 | refl=>exact .refl
 | step _ hj ih=>exact ih.step (hj.imp (hs _) (hs _))
theorem prim_all {n:Nat} {l:List api_Flow} (ok:∀ f ∈ l,okF n f) (hb:Bal n l):∃ T,∀ r,r<n->Prim n l r T:=by
 have hx:∀ r,∃ T,r<n->Prim n l r T:=fun r=>by
  by_cases c:r<n
  ·obtain ⟨T,h⟩:=prim_ex ok hb c
   exact ⟨T,fun _=>h⟩
  ·exact ⟨fun _=>0,fun g=>absurd g c⟩
 obtain ⟨T,hT⟩:=Classical.axiomOfChoice hx
 exact ⟨fun k=>T k k,fun r hr=>(hT r hr).congr ok fun k hk hc=>((hT k hk).uniq ok hk ((hT r hr).to hc) hk .refl)⟩
structure RP (N:Nat) (L:List api_Flow) (m:Nat->Rat) (P:Nat->Nat):Prop where
 pos:∀ k,k<N->0<m k
 sat:Sat L m
 lt:∀ k,k<N->P k<N
 one:∀ k,k<N->P (P k)=P k/\m (P k)=1
 cn:∀ j k,j<N->k<N->(P j=P k ↔ Cn (L.map fN) j k)
section
variable {N:Nat} {L:List api_Flow} {f:api_Flow} {m:Nat->Rat} {P:Nat->Nat}
theorem RP.init:RP N [] (fun _=>1) (fun k=>k):=by
 refine ⟨fun _ _=>by decide,fun f hf=>by simp at hf,fun _ h=>h,fun _ _=>⟨rfl,rfl⟩,fun j k _ _=>⟨fun h=>h ▸ .refl,fun h=>?_⟩⟩
 cases h with
 | refl=>rfl
 | step _ hj=>rcases hj with hj | hj <;> simp at hj
theorem RP.bal (h:RP N L m P):Bal N L:=⟨m,h.pos,h.sat⟩
theorem RP.sz (h:RP N L m P) (hN:N<=10) (ok:∀ f ∈ L,okF N f) {k:Nat} (hk:k<N):Sz 61 (m k):=
 (Cn.sz ok h.sat (h.lt k hk) (h.one k hk).2 ((h.cn _ _ (h.lt k hk) hk).1 (h.one k hk).1)).mono (by omega)
theorem map_snoc:(L ++ [f]).map fN=L.map fN ++ [(f.A.toNat,f.B.toNat)]:=by rw [List.map_append];rfl
theorem RP.same (h:RP N L m P) (hf:okF N f) (hp:P f.A.toNat=P f.B.toNat) (hm:(f.Put:Rat)*m f.A.toNat=f.Take*m f.B.toNat) (ok:∀ f ∈ L,okF N f):RP N (L ++ [f]) m P:=by
 refine ⟨h.pos,sat_snoc.2 ⟨h.sat,hm⟩,h.lt,h.one,fun j k hj hk=>⟨fun e=>((h.cn j k hj hk).1 e).more fun e he=>by rw [map_snoc];exact List.mem_append_left _ he,fun hc=>?_⟩⟩
 refine Cn.ind (P:=fun x=>P j=P x) (fun a b hab=>?_) hc rfl
 have e:P a=P b:=by
  rw [map_snoc] at hab
  rcases List.mem_append.1 hab with hab | hab
  ·obtain ⟨g,g1,rfl,rfl⟩:=es_mem hab
   exact (h.cn _ _ (ok g g1).an (ok g g1).bn).2 (Cn.refl.step (.inl hab))
  ·obtain ⟨rfl,rfl⟩:=Prod.mk.inj (List.mem_singleton.1 hab)
   exact hp
 rw [e]
theorem RP.broken (h:RP N L m P) (hf:okF N f) (ok:∀ f ∈ L,okF N f) (hp:P f.A.toNat=P f.B.toNat) (hm:(f.Put:Rat)*m f.A.toNat≠f.Take*m f.B.toNat): ¬ Bal N (L ++ [f]):=by
 rintro ⟨v,hv,hs⟩
 obtain ⟨h1,h2⟩:=sat_snoc.1 hs
 have e:=h.sat.prop (lab:=P) ok h1 ((h.cn _ _ hf.an hf.bn).1 hp)
 have va:=hv _ hf.an
 refine hm (rat_cancel va ?_)
 have e3:v f.A.toNat*((f.Put:Rat)*m f.A.toNat)=(f.Put:Rat)*v f.A.toNat*m f.A.toNat:=by grind
 rw [e3,h2]
 have e4:(f.Take:Rat)*v f.B.toNat*m f.A.toNat=f.Take*(v f.B.toNat*m f.A.toNat):=by grind
 rw [e4,e]
 grind
def mrgM (m:Nat->Rat) (P:Nat->Nat) (b:Nat) (q:Rat) (k:Nat):Rat:=if P k=P b then m k*q else m k
def mrgP (P:Nat->Nat) (a b k:Nat):Nat:=if P k=P b then P a else P k
theorem RP.merge (h:RP N L m P) (hf:okF N f) (ok:∀ f ∈ L,okF N f) (hp:P f.A.toNat≠P f.B.toNat) {q:Rat} (hq:m f.B.toNat*q=m f.A.toNat*Rat.divInt f.Put f.Take) (hq0:0<q):RP N (L ++ [f]) (mrgM m P f.B.toNat q) (mrgP P f.A.toNat f.B.toNat):=by
 have an:=hf.an
 have bn:=hf.bn
 have hL:∀ a b,(a,b) ∈ L.map fN->P a=P b:=fun a b hab=>by
  obtain ⟨g,g1,rfl,rfl⟩:=es_mem hab
  exact (h.cn _ _ (ok g g1).an (ok g g1).bn).2 (Cn.refl.step (.inl hab))
 have Pa:mrgP P f.A.toNat f.B.toNat f.A.toNat=P f.A.toNat:=if_neg hp
 have Pb:mrgP P f.A.toNat f.B.toNat f.B.toNat=P f.A.toNat:=if_pos rfl
 refine ⟨fun k hk=>?_,sat_snoc.2 ⟨fun g hg=>?_,?_⟩,fun k hk=>?_,fun k hk=>?_,fun j k hj hk=>⟨fun e=>?_,fun hc=>?_⟩⟩
 ·unfold mrgM
  split
  ·exact Rat.mul_pos (h.pos k hk) hq0
  ·exact h.pos k hk
 ·have e:=h.sat g hg
  have e2:=hL _ _ (List.mem_map.2 ⟨g,hg,rfl⟩)
  unfold mrgM
  rw [e2]
  split
  ·rw [<- Rat.mul_assoc,e,Rat.mul_assoc]
  ·exact e
 ·unfold mrgM
  rw [if_neg hp,if_pos rfl,hq,Rat.divInt_eq_div,Rat.div_def]
  have:=hf.take
  grind
 ·unfold mrgP
  split
  ·exact h.lt _ an
  ·exact h.lt k hk
 ·have ha:=h.one _ an
  have hk':=h.one k hk
  unfold mrgP mrgM
  by_cases e:P k=P f.B.toNat
  ·rw [if_pos e,ha.1,if_neg hp,if_neg hp]
   exact ⟨rfl,ha.2⟩
  ·rw [if_neg e,hk'.1,if_neg e,if_neg e]
   exact ⟨rfl,hk'.2⟩
 ·have more:∀ {x y:Nat},x<N->y<N->P x=P y->Cn ((L ++ [f]).map fN) x y:=fun {x y} hx hy e=>((h.cn x y hx hy).1 e).more fun e he=>by rw [map_snoc];exact List.mem_append_left _ he
  have ab:Cn ((L ++ [f]).map fN) f.A.toNat f.B.toNat:=Cn.refl.step (.inl (by rw [map_snoc];exact List.mem_append_right _ List.mem_cons_self))
  unfold mrgP at e
  by_cases c1:P j=P f.B.toNat
  ·rw [if_pos c1] at e
   by_cases c2:P k=P f.B.toNat
   ·exact more hj hk (c1.trans c2.symm)
   ·rw [if_neg c2] at e
    exact ((more hj bn c1).trans ab.symm).trans (more an hk e)
  ·rw [if_neg c1] at e
   by_cases c2:P k=P f.B.toNat
   ·rw [if_pos c2] at e
    exact ((more hj an e).trans ab).trans (more bn hk c2.symm)
   ·rw [if_neg c2] at e
    exact more hj hk e
 ·refine Cn.ind (P:=fun x=>mrgP P f.A.toNat f.B.toNat j=mrgP P f.A.toNat f.B.toNat x) (fun a b hab=>?_) hc rfl
  have e:mrgP P f.A.toNat f.B.toNat a=mrgP P f.A.toNat f.B.toNat b:=by
   rw [map_snoc] at hab
   rcases List.mem_append.1 hab with hab | hab
   ·unfold mrgP
    rw [hL a b hab]
   ·obtain ⟨rfl,rfl⟩:=Prod.mk.inj (List.mem_singleton.1 hab)
    rw [Pa,Pb]
  rw [e]
end
section
variable {N:Nat} {l:List api_Flow} {Q:List Int×Int×Int->Prop}
theorem take_snoc {i:Nat} (hi:i<l.length):l.take (i+1)=l.take i ++ [gd l i]:=by
 rw [List.take_add_one,List.getElem?_eq_getElem hi,gd_lt hi];rfl
theorem ref22_outs {many:List ref01_Q} {part:List Int} {m:Nat->Rat} {P:Nat->Nat} {T:Nat->Int} (hN:N<=10) (ok:∀ f ∈ l,okF N f) (h1:many.length=N) (h2:part.length=N) (hm:∀ k,k<N->RRep (gd many k) (m k)) (hp:∀ k,k<N->gd part k=P k) (h:RP N l m P) (hT:∀ r,r<N->Prim N l r T)
  (H3:∀ k,k<N->64<T k->Q ([],0,3)) (H:∀ o,RepOk N l o T->Q o):(ref22_Repeats.j2 (N:Int) many part).run Q:=by
 unfold ref22_Repeats.j2
 rw [Int.toNat_natCast]
 refine W.req_i (by omega) ?_
 refine W.loop_c (fun s:List Int×Int=>∃ i:Nat,s.2=i/\i<=N/\s.1.length=N/\∀ k,k<i->gd s.1 k=T k/\T k<=64) (fun s=>N - s.2.toNat) ⟨0,rfl,Nat.zero_le _,by simp,fun k hk=>by omega⟩ ?_
 rintro ⟨o,_⟩ P2 ⟨i,rfl,hi,ho,hT2⟩ hgo hbrk hout
 simp only at ho hT2 hgo |-
 unfold ref22_Repeats.l1
 simp only [gi_gd,Int.toNat_natCast]
 refine W.run_if (fun c=>W.req_i (by omega) ?_) fun c=>hbrk _ ?_
 ·have hiN:i<N:=by omega
  refine W.bd (ref22_least_run hN h1 h2 (fun k hk=>⟨hm k hk,h.sz hN ok hk,h.pos k hk⟩) hiN rfl fun z D G hz sz D0 G0 hd hG G2=>W.req_i (by omega) ?_)
  have same:∀ k,k<N->(gd part k=gd part i ↔ Cn (l.map fN) i k):=fun k hk=>by
   rw [hp k hk,hp i hiN,<- h.cn i k hiN hk]
   omega
  have hmem:∀ k,k ∈ (List.range N).filter (fun k=>decide (gd part k=gd part i)) ↔ k<N/\Cn (l.map fN) i k:=fun k=>by
   rw [List.mem_filter,List.mem_range,decide_eq_true_eq]
   exact and_congr_right fun hk=>same k hk
  have gp:∀ {k},k ∈ (List.range N).filter (fun k=>decide (gd part k=gd part i))->k<N/\gd part k=gd part i:=fun {k} hk=>by
   rw [List.mem_filter,List.mem_range,decide_eq_true_eq] at hk
   exact hk
  obtain ⟨_,T0,hP0,hT0⟩:=prim_of (l:=l) (r:=i) (n:=N) (w:=m) (D:=D) (G:=G) (List.length_pos_of_mem ((hmem i).2 ⟨hiN,.refl⟩)) hmem ok h.sat (fun k hk=>hd k (gp hk).1 (gp hk).2) (fun k hk=>xwh_pos (hd k (gp hk).1 (gp hk).2) D0 (h.pos k (gp hk).1)) (fun k hk=>hG k (gp hk).1 (gp hk).2) fun d hd'=>G2 d fun k hk hpk=>hd' k (List.mem_filter.2 ⟨List.mem_range.2 hk,decide_eq_true hpk⟩)
  have e1:=(hT0 i ((hmem i).2 ⟨hiN,.refl⟩)).1
  rw [hP0.uniq ok hiN (hT i hiN) hiN .refl] at e1
  have e2:m i*(((D:Int):Rat) / ((G:Int):Rat))=((T i:Int):Rat):=by
   have x:=xwh_rat (hd i hiN rfl)
   rw [e1] at x
   have g:=nat_ne G0
   rw [<- Rat.intCast_natCast (n:=D)] at x
   push_cast at x g |-
   rw [Rat.div_def,<- Rat.mul_assoc,<- x,Rat.mul_assoc,Rat.mul_inv_cancel _ g,Rat.mul_one]
  refine W.bd (ref01_Mul_run (hm i hiN) hz ((h.sz hN ok hiN).ok (by omega)) (sz.ok (by omega)) fun u hu=>?_)
  rw [e2] at hu
  have tp:=(hT i hiN).pos i hiN .refl
  refine W.bd (ref01_Small_run hu fun v b b1 b2=>W.run_if (fun cb=>W.run_if (fun cv=>hout _ (H3 i hiN ?_)) fun cv=>W.req_i (by omega) (hgo _ ⟨i+1,by simp,by omega,by simp [ho],fun k hk=>?_⟩ (by simp;omega))) fun cb=>hout _ (H3 i hiN ?_))
  ·rw [b1 cb] at cv;exact cv
  ·have hv:=b1 cb
   show gd (o.set i v) k=_/\_
   rw [gd_set]
   by_cases e:i=k
   ·subst e
    rw [if_pos ⟨rfl,by omega⟩,hv]
    exact ⟨rfl,by simp only [hv] at cv;omega⟩
   ·rw [if_neg fun g=>e g.1]
    exact hT2 k (by omega)
  ·by_cases g:64<T i
   ·exact g
   ·exact absurd (b2.2 ⟨by omega,by omega⟩) cb
 ·obtain rfl:i=N:=by omega
  unfold ref22_Repeats.j3
  exact H _ ⟨hT,fun k hk=>(hT2 k hk).2,rfl,ho,fun k hk=>(hT2 k hk).1⟩
theorem ref22_Repeats_run {n:Int} (H:∀ o,RepR n l o->Q o):(ref22_Repeats.f n l).run Q:=by
 unfold ref22_Repeats.f
 refine W.bd (ref22_flows_run fun e he=>W.run_if (fun c=>H _ (.inl ⟨e,c,he,rfl⟩)) fun c=>?_)
 have g:=he.good c
 have g':=g
 obtain ⟨gl,g0,g1,ok⟩:=g
 obtain ⟨N,rfl⟩:∃ N:Nat,n=N:=⟨n.toNat,by omega⟩
 rw [Int.toNat_natCast] at ok
 simp only [Int.toNat_natCast]
 refine W.req_i (by omega) (W.req_i (by omega) ?_)
 refine W.loop_c (fun s:List ref01_Q×List Int×Int=>∃ i:Nat,s.2.2=i/\i<=N/\s.1.length=N/\s.2.1.length=N/\(∀ k,k<i->RRep (gd s.1 k) 1)/\∀ k,k<i->gd s.2.1 k=k) (fun s=>N - s.2.2.toNat) ⟨0,rfl,Nat.zero_le _,by simp,by simp,fun k hk=>by omega,fun k hk=>by omega⟩ ?_
 rintro ⟨many,part,_⟩ P0 ⟨i,rfl,hi,a1,a2,a3,a4⟩ hgo hbrk hout
 simp only at a1 a2 a3 a4 hgo |-
 unfold ref22_Repeats.l4
 simp only [Int.toNat_natCast]
 refine W.run_if (fun c1=>W.bd (ref01_Int_run (by show _/\_;omega) fun one hone=>W.req_i (by omega) (W.req_i (by omega) (hgo _ ⟨i+1,by simp,by omega,by simp [a1],by simp [a2],fun k hk=>?_,fun k hk=>?_⟩ (by simp;omega))))) fun c1=>hbrk _ ?_
 ·show RRep (gd (many.set i one) k) 1
  rw [gd_set]
  by_cases e:i=k
  ·rw [if_pos ⟨e,by omega⟩];simpa using hone
  ·rw [if_neg fun g=>e g.1];exact a3 k (by omega)
 ·show gd (part.set i _) k=_
  rw [gd_set]
  by_cases e:i=k
  ·rw [if_pos ⟨e,by omega⟩,e]
  ·rw [if_neg fun g=>e g.1];exact a4 k (by omega)
 obtain rfl:i=N:=by omega
 clear hgo hbrk hout
 have hi10:i<=10:=by omega
 unfold ref22_Repeats.j1
 refine W.loop_c (fun s:List ref01_Q×List Int×Int=>∃ (j:Nat) (m:Nat->Rat) (P:Nat->Nat),s.2.2=j/\j<=l.length/\s.1.length=i/\s.2.1.length=i/\(∀ k,k<i->RRep (gd s.1 k) (m k))/\(∀ k,k<i->gd s.2.1 k=P k)/\RP i (l.take j) m P/\∀ t,t<j->Bal i (l.take (t+1))) (fun s=>l.length - s.2.2.toNat) ⟨0,_,_,rfl,Nat.zero_le _,a1,a2,a3,a4,by rw [List.take_zero];exact RP.init,fun k hk=>by omega⟩ ?_
 clear a1 a2 a3 a4
 rintro ⟨many,part,_⟩ P1 ⟨j,m,P,rfl,hj,a1,a2,a3,a4,hR,hB⟩ hgo hbrk hout
 simp only at a1 a2 a3 a4 hgo |-
 unfold ref22_Repeats.l2
 simp only [gi_gd,Int.toNat_natCast]
 refine W.run_if (fun c1=>?_) fun c1=>hbrk _ ?_
 ·have hjl:j<l.length:=by omega
  have hf:=ok _ (gd_mem hjl)
  have okt:∀ f ∈ l.take j,okF i f:=fun f hf=>ok f (List.mem_of_mem_take hf)
  have e1:(gd l j).A=((gd l j).A.toNat:Int):=by have:=hf.a0;omega
  have e2:(gd l j).B=((gd l j).B.toNat:Int):=by have:=hf.b0;omega
  have an:=hf.an
  have bn:=hf.bn
  have b1:=hf.b1
  have a1':=hf.a1
  have a0':=hf.a0
  have b0':=hf.b0
  have hput:=hf.put
  have htake:=hf.take
  have ma:=a3 _ an
  have mb:=a3 _ bn
  have sa:=hR.sz hi10 okt an
  have sb:=hR.sz hi10 okt bn
  have pa:=hR.pos _ an
  have pb:=hR.pos _ bn
  have ts:=take_snoc hjl
  have qpos:(0:Rat)<Rat.divInt (gd l j).Put (gd l j).Take:=by
   rw [Rat.divInt_eq_div,Rat.div_def]
   exact Rat.mul_pos hput (Rat.inv_pos.2 htake)
  simp only [gi_gdi e1,gi_gdi e2]
  refine W.req_i (by omega) (W.req_i (by omega) (W.req_i (by omega) (W.req_i (by omega) (W.req_i (by omega) (W.bd (ref01_Half_run hf.p0 hf.p1 hf.t0 hf.t1 fun h hh sh=>W.bd (ref01_Mul_run ma hh (sa.ok (by omega)) (sh.ok (by omega)) fun want hw=>W.req_i (by omega) (W.req_i (by omega) (W.run_if (fun c2=>W.req_i (by omega) ?_) fun c2=>W.req_i (by omega) (W.req_i (by omega) ?_))))))))))
  ·rw [a4 _ an,a4 _ bn] at c2
   have c2:P (gd l j).A.toNat=P (gd l j).B.toNat:=by omega
   have weq:m (gd l j).A.toNat*Rat.divInt (gd l j).Put (gd l j).Take=m (gd l j).B.toNat ↔ ((gd l j).Put:Rat)*m (gd l j).A.toNat=(gd l j).Take*m (gd l j).B.toNat:=by
    rw [Rat.divInt_eq_div,Rat.div_def]
    constructor
    ·intro e;rw [<- e];grind
    ·intro e
     refine rat_cancel htake ?_
     rw [<- e];grind
   refine W.bd (ref01_Cmp0_run hw mb ((sa.mul sh).ok (by omega)) (sb.ok (by omega)) fun r hr=>W.run_if (fun c3=>hout _ (H _ (.inr ⟨g',.inl ⟨j,hjl,?_,?_,rfl⟩⟩))) fun c3=>?_)
   ·rw [ts]
    exact hR.broken hf okt c2 fun e=>c3 (hr.2 (weq.2 e))
   ·simpa using hB
   ·have c3:r=0:=by omega
    unfold ref22_Repeats.j4
    have hR':=hR.same hf c2 (weq.1 (hr.1 c3)) okt
    rw [<- ts] at hR'
    refine hgo _ ⟨j+1,m,P,by simp,by omega,a1,a2,a3,a4,hR',fun t ht=>?_⟩ (by simp;omega)
    by_cases e:t=j
    ·rw [e];exact hR'.bal
    ·exact hB t (by omega)
  ·rw [a4 _ an,a4 _ bn] at c2
   have c2:P (gd l j).A.toNat≠P (gd l j).B.toNat:=by omega
   refine W.bd (ref01_Div_run hw mb ((sa.mul sh).ok (by omega)) (sb.ok (by omega)) (by grind) fun q hq=>?_)
   have sq:=(sa.mul sh).div sb (by grind)
   have q0:(0:Rat)<m (gd l j).A.toNat*Rat.divInt (gd l j).Put (gd l j).Take / m (gd l j).B.toNat:=by
    rw [Rat.div_def]
    exact Rat.mul_pos (Rat.mul_pos pa qpos) (Rat.inv_pos.2 pb)
   have qe:m (gd l j).B.toNat*(m (gd l j).A.toNat*Rat.divInt (gd l j).Put (gd l j).Take / m (gd l j).B.toNat)=m (gd l j).A.toNat*Rat.divInt (gd l j).Put (gd l j).Take:=by
    rw [Rat.div_def]
    grind
   generalize m (gd l j).A.toNat*Rat.divInt (gd l j).Put (gd l j).Take / m (gd l j).B.toNat=qv at hq sq q0 qe
   have hR':=hR.merge hf okt c2 qe q0
   rw [<- ts] at hR'
   refine W.loop_c (fun s:List ref01_Q×List Int×Int=>∃ k:Nat,s.2.2=k/\k<=i/\s.1.length=i/\s.2.1.length=i/\(∀ x,x<i->RRep (gd s.1 x) (if x<k then mrgM m P (gd l j).B.toNat qv x else m x))/\∀ x,x<i->gd s.2.1 x=((if x<k then mrgP P (gd l j).A.toNat (gd l j).B.toNat x else P x:Nat):Int)) (fun s=>i - s.2.2.toNat) ⟨0,rfl,Nat.zero_le _,a1,a2,fun x hx=>by rw [if_neg (by omega)];exact a3 x hx,fun x hx=>by rw [if_neg (by omega)];exact a4 x hx⟩ ?_
   rintro ⟨qs,pt,_⟩ P3 ⟨k,rfl,hk,d1,d2,d3,d4⟩ hgo3 hbrk3 hout3
   simp only at d1 d2 d3 d4 hgo3 |-
   unfold ref22_Repeats.l3 ref22_Repeats.j5
   simp only [gi_gd,Int.toNat_natCast,gi_gdi e1,gi_gdi e2]
   refine W.run_if (fun c3=>W.req_i (by omega) ?_) fun c3=>hbrk3 _ ?_
   ·have hki:k<i:=by omega
    have dk:=d3 k hki
    have pk:=d4 k hki
    rw [if_neg (Nat.lt_irrefl k)] at dk pk
    rw [pk,a4 _ bn]
    have pA:gd pt (gd l j).A.toNat=P (gd l j).A.toNat:=by
     rw [d4 _ an]
     have:mrgP P (gd l j).A.toNat (gd l j).B.toNat (gd l j).A.toNat=P (gd l j).A.toNat:=if_neg c2
     split
     ·rw [this]
     ·rfl
    refine W.run_if (fun c4=>W.req_i (by omega) (W.req_i (by omega) (W.bd (ref01_Mul_run dk hq ((hR.sz hi10 okt hki).ok (by omega)) (sq.ok (by omega)) fun u hu=>W.req_i (by omega) (W.req_i (by omega) (hgo3 _ ⟨k+1,by simp,by omega,by simp [d1],by simp [d2],fun x hx=>?_,fun x hx=>?_⟩ (by simp;omega))))))) fun c4=>hgo3 _ ⟨k+1,by simp,by omega,d1,d2,fun x hx=>?_,fun x hx=>?_⟩ (by simp;omega)
    ·have c4:P k=P (gd l j).B.toNat:=by omega
     show RRep (gd (qs.set k u) x) _
     rw [gd_set]
     by_cases e:k=x
     ·subst e
      rw [if_pos ⟨rfl,by omega⟩,if_pos (by omega)]
      unfold mrgM
      rw [if_pos c4]
      exact hu
     ·rw [if_neg fun g=>e g.1]
      have:=d3 x hx
      by_cases e2:x<k
      ·rw [if_pos e2] at this;rw [if_pos (by omega)];exact this
      ·rw [if_neg e2] at this;rw [if_neg (by omega)];exact this
    ·have c4:P k=P (gd l j).B.toNat:=by omega
     show gd (pt.set k _) x=_
     rw [gd_set]
     by_cases e:k=x
     ·subst e
      rw [if_pos ⟨rfl,by omega⟩,if_pos (by omega),pA]
      unfold mrgP
      rw [if_pos c4]
     ·rw [if_neg fun g=>e g.1,d4 x hx]
      by_cases e2:x<k
      ·rw [if_pos e2,if_pos (by omega)]
      ·rw [if_neg e2,if_neg (by omega)]
    ·have c4: ¬ P k=P (gd l j).B.toNat:=by omega
     by_cases e:k=x
     ·subst e
      show RRep (gd qs k) _
      rw [if_pos (by omega)]
      unfold mrgM
      rw [if_neg c4]
      exact dk
     ·have:=d3 x hx
      show RRep (gd qs x) _
      by_cases e2:x<k
      ·rw [if_pos e2] at this;rw [if_pos (by omega)];exact this
      ·rw [if_neg e2] at this;rw [if_neg (by omega)];exact this
    ·have c4: ¬ P k=P (gd l j).B.toNat:=by omega
     show gd pt x=_
     rw [d4 x hx]
     by_cases e:k=x
     ·subst e
      rw [if_neg (Nat.lt_irrefl k),if_pos (by omega)]
      unfold mrgP
      rw [if_neg c4]
     ·by_cases e2:x<k
      ·rw [if_pos e2,if_pos (by omega)]
      ·rw [if_neg e2,if_neg (by omega)]
   ·obtain rfl:k=i:=by omega
    unfold ref22_Repeats.j4
    refine hgo _ ⟨j+1,_,_,by simp,by omega,d1,d2,fun x hx=>?_,fun x hx=>?_,hR',fun t ht=>?_⟩ (by simp;omega)
    ·have:=d3 x hx
     rwa [if_pos hx] at this
    ·have:=d4 x hx
     rwa [if_pos hx] at this
    ·by_cases e:t=j
     ·rw [e];exact hR'.bal
     ·exact hB t (by omega)
 ·obtain rfl:j=l.length:=by omega
  rw [List.take_length] at hR
  obtain ⟨T,hT⟩:=prim_all ok hR.bal
  refine ref22_outs hi10 ok a1 a2 a3 a4 hR hT (fun k hk h64=>H _ (.inr ⟨g',.inr ⟨by simpa using hB,.inl ⟨k,T,k,by simpa using hk,by simpa using hT k hk,by simpa using hk,.refl,h64,rfl⟩⟩⟩)) fun o ho=>H _ (.inr ⟨g',.inr ⟨by simpa using hB,.inr ⟨T,by simpa using ho⟩⟩⟩)
end
end Go.Proofs.Ytgbmmbfminafnaa.E
namespace Go.Proofs.Ytgbmmbfminafnaa.E
open Go Go.RowKit
theorem law22_ClockRepeats_run {n:Int} {l:List api_Flow} {os:List Int} (hos:os.length<=281474976710656):(law22_ClockRepeats.f n l os).run fun b=>b=true:=by
 unfold law22_ClockRepeats.f
 refine W.bd (clock_Repeats_run fun a ha=>W.bd (ref22_Repeats_run fun b hb=>?_))
 obtain rfl:=ha.uniq hb
 refine W.run_if (fun c=>absurd rfl c) fun _=>W.run_if (fun c=>absurd rfl c) fun _=>W.bd (ref14_Same_run ?_)
 rw [decide_eq_true rfl,if_pos rfl]
 refine W.bd (clock_Order_run fun a ha=>W.bd (ref22_Order_run (fun {Q} H=>ref22_Repeats_run H) fun b hb=>?_))
 obtain rfl:=ha.uniq hb
 rw [if_pos (by simp)]
 refine W.run_if (fun c=>absurd rfl c) fun _=>W.bd (ref14_Same_run ?_)
 rw [decide_eq_true rfl,if_pos rfl]
 refine W.bd (clock_Peak_run hos fun a ha=>W.bd (ref22_Peak_run hos fun b hb=>?_))
 obtain rfl:=ha.uniq hb
 rw [if_pos rfl]
 refine W.bd (ref14_Same_run ?_)
 rw [decide_eq_true rfl,if_pos rfl]
 refine W.bd (ref14_Same_run ?_)
 rw [decide_eq_true rfl,if_pos rfl]
 exact W.bd (law22_known_run rfl)
end Go.Proofs.Ytgbmmbfminafnaa.E
