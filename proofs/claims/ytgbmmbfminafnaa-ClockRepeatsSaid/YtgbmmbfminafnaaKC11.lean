/- Joined. -/
import Derived.Test.YtgbmmbfminafnaaKC9
set_option linter.unusedVariables false
set_option linter.unusedSimpArgs false
namespace Go.Proofs.Ytgbmmbfminafnaa.E
open Go Go.RowKit
open Classical in
noncomputable def peakV (n:Int) (l:List api_Flow) (os:List Int):List Int×List Int×Int:=
 if ∀ k ∈ os,0<=k/\k<n then (match playM l (startL l) (startL l) os with
  | none=>([],[],1)
  | some x=>if 200<os.length then ([],[],3) else (x.1,x.2,0)) else ([],[],1)
def PeakR (n:Int) (l:List api_Flow) (os:List Int) (o:List Int×List Int×Int):Prop:=(∃ e,e≠0/\FlowsR n l e/\o=([],[],e))\/(Good n l/\o=peakV n l os)
theorem FlowsR.good {n:Int} {l:List api_Flow} {e:Int} (he:FlowsR n l e) (c: ¬ e≠0):Good n l:=by
 rcases he with ⟨_,h⟩ | ⟨h,_⟩ | ⟨h,_⟩
 ·exact h
 ·omega
 ·omega
section
variable {l:List api_Flow}
theorem clock_Peak_run {n:Int} {os:List Int} {Q:List Int×List Int×Int->Prop} (hos:os.length<=281474976710656) (H:∀ o,PeakR n l os o->Q o):(clock_Peak.f n l os).run Q:=by
 unfold clock_Peak.f
 refine W.bd (clock_flows_run fun e he=>W.run_if (fun c=>H _ (.inl ⟨e,c,he,rfl⟩)) fun c=>?_)
 have g:=he.good c
 have H1:Q (peakV n l os):=H _ (.inr ⟨g,rfl⟩)
 obtain ⟨gl,g0,g1,ok⟩:=g
 obtain ⟨N,rfl⟩:∃ N:Nat,n=N:=⟨n.toNat,by omega⟩
 rw [Int.toNat_natCast] at ok
 refine W.loop_c (fun p=>∃ i:Nat,p=i/\i<=os.length/\∀ j,j<i->0<=gd os j/\gd os j<N) (fun p=>os.length - p.toNat) ⟨0,rfl,Nat.zero_le _,fun j hj=>by omega⟩ ?_
 rintro _ P ⟨i,rfl,hi,hr⟩ hgo hbrk hout
 unfold clock_Peak.l4
 simp only [gi_gd]
 have bad:i<os.length->¬ (0<=gd os i/\gd os i<N)->P (.out ([],[],1)):=fun h1 h2=>hout _ (by
  unfold peakV at H1
  rw [if_neg fun g=>h2 (g _ (gd_mem h1))] at H1
  exact H1)
 refine W.run_if (fun c1=>W.req_i (by omega) (W.run_if (fun c2=>bad (by omega) fun g=>by omega) fun c2=>W.run_if (fun c3=>bad (by omega) fun g=>by omega) fun c3=>hgo _ ⟨i+1,by simp,by omega,fun j hj=>?_⟩ (by simp;omega))) fun c1=>hbrk _ ?_
 ·by_cases e:j=i
  ·rw [e];omega
  ·exact hr j (by omega)
 obtain rfl:i=os.length:=by omega
 have hin:∀ k ∈ os,0<=k/\k<(N:Int):=fun k hk=>by
  obtain ⟨j,hj,rfl⟩:=List.mem_iff_getElem.1 hk
  have:=hr j hj
  rwa [gd_lt hj] at this
 unfold peakV at H1
 rw [if_pos hin] at H1
 unfold clock_Peak.j1
 refine W.req_i (by omega) ?_
 rw [Int.toNat_natCast]
 refine starts_loop (b:=clock_Peak.l3 l) (fun p i=>rfl) fun _=>?_
 unfold clock_Peak.j2
 refine W.req_i (by show (startL l).length<=_;rw [startL_len];omega) ?_
 refine W.loop_c (fun s:List Int×List Int×Int=>∃ t:Nat,s.2.2=t/\t<=os.length/\s.1.length=l.length/\s.2.1.length=l.length/\(∀ j,j<l.length->-((64+60*t:Nat):Int)<=gd s.1 j/\gd s.1 j<=((64+60*t:Nat):Int))/\playM l (startL l) (startL l) os=playM l s.1 s.2.1 (os.drop t)) (fun s=>os.length - s.2.2.toNat) ⟨0,rfl,Nat.zero_le _,startL_len,startL_len,fun j hj=>by
  have hf:=ok _ (gd_mem hj)
  have:=hf.s0
  have:=hf.s1
  simp only
  rw [startL_at hj];omega,rfl⟩ ?_
 rintro ⟨h,m,_⟩ P2 ⟨t,rfl,ht,hl,hm,hB,hP⟩ hgo2 hbrk2 hout2
 simp only at hl hm hB hP hgo2 |-
 unfold clock_Peak.l1
 simp only [gi_gd]
 refine W.run_if (fun c2=>W.req_i (by omega) ?_) fun c2=>hbrk2 _ ?_
 ·have hd:os.drop t=gd os t ::os.drop (t+1):=by rw [gd_lt (by omega)];exact List.drop_eq_getElem_cons (by omega)
  refine W.bd (clock_fire_run ok hl (by omega) hB (fun hc=>?_) fun hc=>?_)
  ·rw [if_pos rfl]
   refine W.loop_c (fun s:List Int×Int=>∃ i:Nat,s.2=i/\i<=l.length/\s.1.length=l.length/\(∀ j,j<i->gd s.1 j=mx (gd m j) (gd (fireL l h (gd os t)) j))/\∀ j,i<=j->j<l.length->gd s.1 j=gd m j) (fun s=>l.length - s.2.toNat) ⟨0,rfl,Nat.zero_le _,hm,fun j hj=>by omega,fun j _ _=>rfl⟩ ?_
   rintro ⟨p,_⟩ P3 ⟨i,rfl,hi,k1,k2,k3⟩ hgo3 hbrk3 hout3
   simp only at k1 k2 k3 hgo3 |-
   unfold clock_Peak.l2
   simp only [gi_gd,Int.toNat_natCast]
   have fl:=fireL_len (l:=l) (h:=h) (k:=gd os t)
   refine W.run_if (fun c3=>W.req_i (by omega) (W.req_i (by omega) (W.req_i (by omega) (hgo3 _ ⟨i+1,by simp,by omega,by simp [k1],fun j hj=>?_,fun j hj1 hj2=>?_⟩ (by simp;omega))))) fun c3=>hbrk3 _ ?_
   ·show gd (p.set i _) j=_
    rw [gd_set]
    by_cases e:i=j
    ·rw [if_pos ⟨e,by omega⟩,k3 i (Nat.le_refl _) (by omega),e]
    ·rw [if_neg fun g=>e g.1];exact k2 j (by omega)
   ·show gd (p.set i _) j=_
    rw [gd_set,if_neg (by omega)]
    exact k3 j (by omega) hj2
   ·obtain rfl:i=l.length:=by omega
    unfold clock_Peak.j4
    refine hgo2 _ ⟨t+1,by simp,by omega,fl,k1,fun j hj=>?_,?_⟩ (by simp;omega)
    ·have:=CanF.bnd (k:=gd os t) ok hB j hj
     show -((64+60*(t+1):Nat):Int)<=gd (fireL l h (gd os t)) j/\gd (fireL l h (gd os t)) j<=((64+60*(t+1):Nat):Int)
     omega
    ·show playM l (startL l) (startL l) os=playM l (fireL l h (gd os t)) p (os.drop (t+1))
     rw [hP,hd,playM,if_pos hc,show p=maxL m (fireL l h (gd os t)) from list_gd_ext (by rw [k1,maxL_len,hm]) fun j hj=>by rw [k2 j (by omega),maxL_at (by omega)]]
  ·rw [if_neg (by simp)]
   refine hout2 _ ?_
   rw [hP,hd,playM,if_neg hc] at H1
   exact H1
 ·obtain rfl:t=os.length:=by omega
  rw [List.drop_length] at hP
  rw [hP] at H1
  unfold clock_Peak.j3
  refine W.run_if (fun c3=>?_) fun c3=>?_
  ·rw [show playM l h m [] =some (h,m) from rfl] at H1
   simp only [if_pos (show 200<os.length by omega)] at H1
   exact H1
  ·rw [show playM l h m [] =some (h,m) from rfl] at H1
   simp only [if_neg (show ¬ 200<os.length by omega)] at H1
   exact H1
theorem ref14_Same_run {a b:List Int} {Q:Bool->Prop} (H:Q (decide (a=b))):(ref14_Same.f a b).run Q:=by
 unfold ref14_Same.f
 refine W.loop_c (fun p=>∃ i:Nat,p=i/\i<=a.length/\i<=b.length/\∀ j,j<i->gd a j=gd b j) (fun p=>a.length - p.toNat) ⟨0,rfl,Nat.zero_le _,Nat.zero_le _,fun j hj=>by omega⟩ ?_
 rintro _ P ⟨i,rfl,hi,hi2,hr⟩ hgo hbrk hout
 unfold ref14_Same.l1
 simp only [gi_gd]
 have fin:a.length<=i\/b.length<=i->(ref14_Same.j1 a b).run Q:=fun g=>by
  unfold ref14_Same.j1
  show Q _
  rwa [show decide ((a.length:Int)=(b.length:Int))=decide (a=b) from decide_eq_decide.2 ⟨fun e=>list_gd_ext (by omega) fun k hk=>hr k (by omega),fun e=>by rw [e]⟩]
 refine W.run_if (fun c=>W.run_if (fun c1=>W.req_i (by omega) (W.req_i (by omega) (W.run_if (fun c2=>hout _ ?_) fun c2=>hgo _ ⟨i+1,by simp,by omega,by omega,fun j hj=>?_⟩ (by simp;omega)))) fun c1=>hbrk _ (fin (.inr (by omega)))) fun c=>hbrk _ (fin (.inl (by omega)))
 ·show Q false
  rwa [decide_eq_false fun e=>c2 (by rw [e])] at H
 ·by_cases e:j=i
  ·rw [e];exact Classical.byContradiction c2
  ·exact hr j (by omega)
end
def exF:api_Flow:=⟨0,1,2,3,0⟩
theorem ex_good:Good 2 [exF]:=⟨by decide,by decide,by decide,fun f hf=>by
 rw [List.mem_singleton.1 hf]
 exact ⟨by decide,by decide,by decide,by decide,by decide,by decide,by decide,by decide,by decide,by decide⟩⟩
theorem ex_flows {e:Int} (h:FlowsR 2 [exF] e):e=0:=by
 rcases h with ⟨h,_⟩ | ⟨_,h⟩ | ⟨_,_,h⟩
 ·exact h
 ·simp at h
 ·exact absurd ex_good h
theorem ex_cn (k:Nat) (hk:k<2):Cn ([exF].map fN) 0 k:=by
 have:k=0\/k=1:=by omega
 rcases this with rfl | rfl
 ·exact .refl
 ·exact Cn.refl.step (.inl (by decide))
theorem ex_prim {r:Nat} {T:Nat->Int} (hr:r<2) (h:Prim 2 [exF] r T):T 0=3/\T 1=2:=by
 have h:=h.to (ex_cn r hr).symm
 have p0:=h.pos 0 (by decide) .refl
 have p1:=h.pos 1 (by decide) (ex_cn 1 (by decide))
 have s:(2:Int)*T 0=3*T 1:=h.sat exF (List.mem_singleton.2 rfl) .refl
 have c:=h.cop (T 0 - T 1) fun k hk _=>by
  have:k=0\/k=1:=by omega
  rcases this with rfl | rfl
  ·exact ⟨3,by omega⟩
  ·exact ⟨2,by omega⟩
 have:T 0 - T 1<=1:=Int.le_of_dvd (by decide) c
 omega
theorem ex_bal:Bal 2 [exF]:=⟨fun k=>if k=0 then 3 else 2,fun k hk=>by
 show (0:Rat)<if k=0 then 3 else 2
 split <;> decide,fun f hf=>by
 rw [List.mem_singleton.1 hf]
 show ((2:Int):Rat)*3=((3:Int):Rat)*2
 grind⟩
theorem ex_rep {o:List Int×Int×Int} (h:RepR 2 [exF] o):o=([3,2],0,0):=by
 rcases h with ⟨e,e1,e2,rfl⟩ | ⟨g,⟨i,i1,i2,_,rfl⟩ | ⟨hb,⟨r,T,k,r1,r2,k1,_,k2,rfl⟩ | ⟨T,t1,t2,t3,t4,t5⟩⟩⟩
 ·exact absurd (ex_flows e2) e1
 ·obtain rfl:i=0:=by simp at i1;exact i1
  exact absurd ex_bal i2
 ·obtain ⟨a,b⟩:=ex_prim r1 r2
  have:k=0\/k=1:=by have:k<2:=k1;omega
  rcases this with rfl | rfl <;> omega
 ·obtain ⟨a,b⟩:=ex_prim (r:=0) (by decide) (t1 0 (by decide))
  obtain ⟨o1,o2,o3⟩:=o
  have e:=t3
  simp only [Prod.mk.injEq] at e
  obtain ⟨rfl,rfl⟩:=e
  have:o1= [3,2]:=list_gd_ext t4 fun k hk=>by
   have hk:k<2:=by rw [t4] at hk;exact hk
   have:k=0\/k=1:=by omega
   rcases this with rfl | rfl
   ·rw [t5 0 (by decide),a];rfl
   ·rw [t5 1 (by decide),b];rfl
  rw [this]
theorem ex_ord {o:List Int×Bool×Int} (h:OrdR 2 [exF] o):o=([0,0,0,1,1],true,0):=by
 obtain ⟨a,ha,h⟩:=h
 obtain rfl:=ex_rep ha
 rcases h with ⟨h,_⟩ | ⟨T,_,hT,_,h⟩
 ·exact absurd rfl h
 ·obtain ⟨x,y⟩:=ex_prim (r:=0) (by decide) (hT.1 0 (by decide))
  have hs:isum (2:Int).toNat T=5:=by show (0+T 0)+T 1=5;omega
  rw [hs] at h
  rcases h with ⟨h,_⟩ | ⟨_,h⟩
  ·omega
  ·rw [h];decide
theorem law22_known_run {Q:Bool->Prop} (H:Q true):law22_known.f.run Q:=by
 unfold law22_known.f
 refine W.bd (clock_Repeats_run fun a ha=>W.bd (clock_Order_run fun o ho=>?_))
 obtain rfl:=ex_rep ha
 obtain rfl:=ex_ord ho
 refine W.bd (ref14_Same_run ?_)
 rw [if_pos (by simp),if_pos rfl]
 refine W.bd (ref14_Same_run ?_)
 rw [if_pos (by simp),if_pos rfl]
 exact H
end Go.Proofs.Ytgbmmbfminafnaa.E
namespace Go.Proofs.Ytgbmmbfminafnaa.E
open Go Go.RowKit
theorem ref22_flows_run {n:Int} {l:List api_Flow} {Q:Int->Prop} (H:∀ e,FlowsR n l e->Q e):(ref22_flows.f n l).run Q:=by
 unfold ref22_flows.f
 refine W.run_if (fun c=>H _ (.inr (.inl ⟨rfl,by omega⟩))) fun c=>W.run_if (fun c1=>H _ (.inr (.inr ⟨rfl,by omega,fun g=>by have:=g.n0;omega⟩))) fun c1=>W.run_if (fun c2=>H _ (.inr (.inr ⟨rfl,by omega,fun g=>by have:=g.n1;omega⟩))) fun c2=>?_
 refine W.loop_c (fun p=>∃ i:Nat,p=i/\i<=l.length/\∀ k,k<i->okF n.toNat (gd l k)) (fun p=>l.length - p.toNat) ⟨0,rfl,Nat.zero_le _,fun k hk=>by omega⟩ ?_
 rintro _ P ⟨i,rfl,hi,hv⟩ hgo hbrk hout
 unfold ref22_flows.l1
 simp only [gi_gd]
 have bad:i<l.length->¬ okF n.toNat (gd l i)->P (.out 1):=fun h1 h2=>hout _ (H _ (.inr (.inr ⟨rfl,by omega,fun g=>h2 (g.ok _ (gd_mem h1))⟩)))
 refine W.run_if (fun c3=>W.req_i (by omega) ?_) (fun c3=>hbrk _ ?_)
 ·refine W.run_if (fun d=>bad (by omega) fun o=>by have:=o.a0;omega) fun a0=>?_
  refine W.run_if (fun d=>bad (by omega) fun o=>by have:=o.a1;omega) fun a1=>?_
  refine W.run_if (fun d=>bad (by omega) fun o=>by have:=o.b0;omega) fun b0=>?_
  refine W.run_if (fun d=>bad (by omega) fun o=>by have:=o.b1;omega) fun b1=>?_
  refine W.run_if (fun d=>bad (by omega) fun o=>by have:=o.p0;omega) fun p0=>?_
  refine W.run_if (fun d=>bad (by omega) fun o=>by have:=o.p1;omega) fun p1=>?_
  refine W.run_if (fun d=>bad (by omega) fun o=>by have:=o.t0;omega) fun t0=>?_
  refine W.run_if (fun d=>bad (by omega) fun o=>by have:=o.t1;omega) fun t1=>?_
  refine W.run_if (fun d=>bad (by omega) fun o=>by have:=o.s0;omega) fun s0=>?_
  refine W.run_if (fun d=>bad (by omega) fun o=>by have:=o.s1;omega) fun s1=>?_
  refine hgo _ ⟨i+1,by simp,by omega,fun k hk=>?_⟩ (by simp;omega)
  by_cases e:k=i
  ·subst e;exact ⟨by omega,by omega,by omega,by omega,by omega,by omega,by omega,by omega,by omega,by omega⟩
  ·exact hv k (by omega)
 ·refine H _ (.inl ⟨rfl,by omega,by omega,by omega,fun f hf=>?_⟩)
  obtain ⟨k,hk,rfl⟩:=List.mem_iff_getElem.1 hf
  have:=hv k (by omega)
  rwa [gd_lt hk] at this
theorem ref22_begins_run {l:List api_Flow} {Q:List Int->Prop} (hl:l.length<=64) (H:Q (startL l)):(ref22_begins.f l).run Q:=by
 unfold ref22_begins.f
 refine W.req_i (by omega) ?_
 rw [Int.toNat_natCast]
 exact starts_loop (b:=ref22_begins.l1 l) (fun p i=>rfl) fun _=>H
section
variable {l:List api_Flow} {h:List Int} {k:Int}
theorem ref22_fires_run {n B:Nat} {Q:Bool×List Int->Prop} (ok:∀ f ∈ l,okF n f) (hl:h.length=l.length) (hB:B<=1000000000000000000) (hb:∀ i,i<l.length->-(B:Int)<=gd h i/\gd h i<=B) (H1:CanF l h k->Q (true,fireL l h k)) (H0: ¬ CanF l h k->Q (false,h)):(ref22_fires.f l h k).run Q:=by
 unfold ref22_fires.f
 refine W.loop_c (fun p=>∃ i:Nat,p=i/\i<=l.length/\∀ j,j<i->(gd l j).B=k->(gd l j).Take<=gd h j) (fun p=>l.length - p.toNat) ⟨0,rfl,Nat.zero_le _,fun j hj=>by omega⟩ ?_
 rintro _ P ⟨i,rfl,hi,hc⟩ hgo hbrk hout
 unfold ref22_fires.l2 ref22_fires.j5
 simp only [gi_gd]
 have next:((gd l i).B=k->(gd l i).Take<=gd h i)->∀ j,j<i+1->(gd l j).B=k->(gd l j).Take<=gd h j:=fun g j hj=>by
  by_cases e:j=i
  ·rw [e];exact g
  ·exact hc j (by omega)
 refine W.run_if (fun c=>W.req_i (by omega) (W.run_if (fun c1=>W.req_i (by omega) (W.req_i (by omega) (W.run_if (fun c2=>hout _ (H0 fun g=>?_)) fun c2=>hgo _ ⟨i+1,by simp,by omega,next fun _=>by omega⟩ (by simp;omega)))) fun c1=>hgo _ ⟨i+1,by simp,by omega,next fun g=>absurd g c1⟩ (by simp;omega))) fun c=>hbrk _ ?_
 ·have:=g i (by omega) c1
  omega
 obtain rfl:i=l.length:=by omega
 unfold ref22_fires.j1
 refine W.loop_c (fun s:List Int×Int=>∃ i:Nat,s.2=i/\i<=l.length/\s.1.length=l.length/\(∀ j,j<i->gd s.1 j=gd h j+dl (gd l j) k)/\∀ j,i<=j->j<l.length->gd s.1 j=gd h j) (fun s=>l.length - s.2.toNat) ⟨0,rfl,Nat.zero_le _,hl,fun j hj=>by omega,fun j _ _=>rfl⟩ ?_
 rintro ⟨p,_⟩ P2 ⟨i,rfl,hi,g1,g2,g3⟩ hgo2 hbrk2 hout2
 simp only at g1 g2 g3 hgo2 |-
 unfold ref22_fires.l1 ref22_fires.j4 ref22_fires.j3
 simp only [gi_gd,Int.toNat_natCast]
 refine W.run_if (fun c3=>W.req_i (by omega) ?_) fun c3=>hbrk2 _ ?_
 ·have hil:i<l.length:=by omega
  have hf:=ok _ (gd_mem hil)
  have p0:=hf.p0
  have p1:=hf.p1
  have t0:=hf.t0
  have t1:=hf.t1
  have hbi:=hb i hil
  have g4:=g3 i (Nat.le_refl _) hil
  have stepL:∀ x:Int,x=gd h i+dl (gd l i) k->P2 (.go (p.set i x,(i:Int)+1)):=fun x hx=>by
   refine hgo2 _ ⟨i+1,by simp,by omega,by rw [List.length_set];exact g1,fun j hj=>?_,fun j hj1 hj2=>?_⟩ (by simp;omega)
   ·show gd (p.set i x) j=_
    rw [gd_set]
    by_cases e:i=j
    ·rw [if_pos ⟨e,by omega⟩,hx,e]
    ·rw [if_neg fun g=>e g.1];exact g2 j (by omega)
   ·show gd (p.set i x) j=_
    rw [gd_set,if_neg (by omega)]
    exact g3 j (by omega) hj2
  have sset:∀ x y:Int,(p.set i x).set i y=p.set i y:=fun x y=>List.set_set ..
  have gset:∀ x:Int,gd (p.set i x) i=x:=fun x=>by rw [gd_set,if_pos ⟨rfl,by omega⟩]
  have same:gd h i+dl (gd l i) k=gd h i->P2 (.go (p,(i:Int)+1)):=fun e=>by
   have:=stepL (gd h i) (by rw [e])
   rwa [show p.set i (gd h i)=p from list_gd_ext (by simp) fun j hj=>by
    rw [gd_set]
    by_cases e:i=j
    ·rw [if_pos ⟨e,by omega⟩,<- g4,e]
    ·rw [if_neg fun g=>e g.1]] at this
  refine W.run_if (fun c4=>W.req_i (by omega) (W.req_i (by omega) (W.req_i (by show _/\_;omega) (W.req_i (by omega) (W.req_i (by omega) (W.run_if (fun c5=>?_) fun c5=>?_)))))) fun c4=>W.req_i (by omega) (W.run_if (fun c5=>?_) fun c5=>?_)
  ·rw [List.length_set,gset,sset]
   exact W.req_i (by omega) (W.req_i (by omega) (W.req_i (by show _/\_;omega) (W.req_i (by omega) (stepL _ (by unfold dl;rw [if_pos c4,if_pos c5];omega)))))
  ·exact stepL _ (by unfold dl;rw [if_pos c4,if_neg c5];omega)
  ·exact W.req_i (by omega) (W.req_i (by omega) (W.req_i (by show _/\_;omega) (W.req_i (by omega) (stepL _ (by unfold dl;rw [if_neg c4,if_pos c5];omega)))))
  ·exact same (by unfold dl;rw [if_neg c4,if_neg c5];omega)
 ·obtain rfl:i=l.length:=by omega
  unfold ref22_fires.j2
  have:=H1 (fun j hj hjk=>hc j hj hjk)
  rwa [show fireL l h k=p from list_gd_ext (by rw [fireL_len,g1]) fun j hj=>by
   rw [fireL_len] at hj
   rw [fireL_at hj,g2 j hj]] at this
end
section
variable {l:List api_Flow}
theorem ref22_Order_run {n:Int} {Q:List Int×Bool×Int->Prop} (rep:∀ {Q:List Int×Int×Int->Prop},(∀ o,RepR n l o->Q o)->(ref22_Repeats.f n l).run Q) (H:∀ o,OrdR n l o->Q o):(ref22_Order.f n l).run Q:=by
 unfold ref22_Order.f
 refine W.bd (rep fun a ha=>W.run_if (fun c=>H _ ⟨a,ha,.inl ⟨c,rfl⟩⟩) fun c=>?_)
 obtain ⟨T,g,hT,hb⟩:=ha.ok c
 have H1:∀ o,((200<isum n.toNat T/\o=([],false,3))\/(isum n.toNat T<=200/\o=((goO l n.toNat (isum n.toNat T).toNat a.1 (startL l) []).1,(goO l n.toNat (isum n.toNat T).toNat a.1 (startL l) []).2,0)))->Q o:=fun o ho=>H o ⟨a,ha,.inr ⟨T,g,hT,hb,ho⟩⟩
 obtain ⟨gl,g0,g1,ok⟩:=g
 clear rep
 obtain ⟨N,rfl⟩:∃ N:Nat,n=N:=⟨n.toNat,by omega⟩
 rw [Int.toNat_natCast] at *
 obtain ⟨t1,t2,t3,t4,t5⟩:=hT
 have tp:∀ k,k<N->0<T k:=fun k hk=>(t1 k hk).pos k hk .refl
 refine W.loop_c (fun s:Int×Int=>∃ i:Nat,s.2=i/\i<=N/\s.1=isum i T/\0<=s.1/\s.1<=64*i) (fun s=>N - s.2.toNat) ⟨0,rfl,Nat.zero_le _,rfl,by simp,by simp⟩ ?_
 rintro ⟨_,_⟩ P ⟨i,rfl,hi,rfl,s0,s1⟩ hgo hbrk hout
 simp only at s0 s1 hgo |-
 unfold ref22_Order.l3
 rw [gi_gd,t4]
 refine W.run_if (fun c1=>W.req_i (by omega) ?_) fun c1=>hbrk _ ?_
 ·have h1:=tp i (by omega)
  have h2:=t2 i (by omega)
  rw [t5 i (by omega)]
  exact W.req_i (by show _/\_;omega) (hgo _ ⟨i+1,by simp,by omega,rfl,by simp only;omega,by simp only;omega⟩ (by simp;omega))
 obtain rfl:i=N:=by omega
 unfold ref22_Order.j1
 refine W.run_if (fun c2=>H1 _ (.inl ⟨by omega,rfl⟩)) fun c2=>W.bd (ref22_begins_run gl ?_)
 have H2:=H1 _ (.inr ⟨by omega,rfl⟩)
 obtain ⟨F,hF⟩:∃ F:Nat,isum i T=F:=⟨(isum i T).toNat,by omega⟩
 rw [hF,Int.toNat_natCast] at H2
 rw [hF]
 have inv0:OInv i l T F a.1 (startL l) []:=⟨t4,fun k hk=>by have:=tp k hk;rw [t5 k hk];omega,by rw [isum_congr t5,hF],startL_len,⟨_,rfl⟩,fun j hj=>by
  have hf:=ok _ (gd_mem hj)
  rw [startL_at hj,t5 _ hf.an,t5 _ hf.bn];simp,fun k hk=>by simp at hk⟩
 refine W.loop_c (fun s:List Int×List Int×List Int=>∃ f:Nat,f<=F/\s.2.2.length=F - f/\OInv i l T f s.1 s.2.1 s.2.2/\(∀ j,j<l.length->-((64+60*(F - f):Nat):Int)<=gd s.2.1 j/\gd s.2.1 j<=((64+60*(F - f):Nat):Int))/\goO l i f s.1 s.2.1 s.2.2=goO l i F a.1 (startL l) []) (fun s=>F - s.2.2.length) ⟨F,Nat.le_refl _,by simp,inv0,fun j hj=>by
  have hf:=ok _ (gd_mem hj)
  have:=hf.s0
  have:=hf.s1
  simp only
  rw [startL_at hj];omega,rfl⟩ ?_
 rintro ⟨times,held,out⟩ P2 ⟨f,hf,hol,hI,hB,hG⟩ hgo2 hbrk2 hout2
 simp only at hol hI hB hG hgo2 |-
 unfold ref22_Order.l1
 have htl:=hI.tl
 refine W.run_if (fun c3=>?_) fun c3=>hbrk2 _ ?_
 ·obtain ⟨f,rfl⟩:∃ f',f=f'+1:=⟨f - 1,by omega⟩
  refine W.loop_c (fun s:List Int×Int=>∃ j:Nat,s=(held,(j:Int))/\j<=i/\pickF l times held 0 i=pickF l times held j (i - j)) (fun s=>i - s.2.toNat) ⟨0,rfl,Nat.zero_le _,by rw [Nat.sub_zero]⟩ ?_
  rintro _ P3 ⟨j,rfl,hj,hpk⟩ hgo3 hbrk3 hout3
  simp only at hgo3 |-
  unfold ref22_Order.l2 ref22_Order.j4
  simp only [gi_gd]
  have skip:j<i->¬ (gd times j>0/\CanF l held j)->P3 (.go (held,(j:Int)+1)):=fun h1 h2=>by
   refine hgo3 _ ⟨j+1,by simp,by omega,?_⟩ (by simp;omega)
   rw [hpk,show i - j=i - (j+1)+1 by omega,pickF,if_neg h2]
  refine W.run_if (fun c4=>W.req_i (by omega) (W.run_if (fun c5=>W.req_i (by show _/\_;omega) (skip (by omega) fun g=>by omega)) fun c5=>W.bd (ref22_fires_run ok hI.hl (by omega) hB (fun hc=>?_) fun hc=>?_))) fun c4=>hbrk3 _ ?_
  ·have htn:=hI.tn j (by omega)
   have c5:gd times j>0:=by omega
   have t2j:=t2 j (by omega)
   rw [if_pos rfl]
   refine hbrk3 _ ?_
   unfold ref22_Order.j3
   simp only [gi_gd,Int.toNat_natCast]
   rw [if_neg (by omega)]
   refine W.req_i (by omega) (W.req_i (by show _/\_;omega) (W.req_i (by omega) (W.req_i (by omega) (hgo2 _ ⟨f,by omega,?_,hI.step ok (by omega) c5 hc,fun q hq=>?_,?_⟩ ?_))))
   ·show (out ++ [(j:Int)]).length=F - f
    rw [List.length_append,hol];simp;omega
   ·have:=CanF.bnd (k:=(j:Int)) ok hB q hq
    show -((64+60*(F - f):Nat):Int)<=gd (fireL l held j) q/\gd (fireL l held j) q<=((64+60*(F - f):Nat):Int)
    omega
   ·rw [<- hG]
    have:pickF l times held 0 i=some j:=by rw [hpk,show i - j=i - (j+1)+1 by omega,pickF,if_pos ⟨c5,hc⟩]
    simp only [goO,this]
   ·show F - (out ++ [(j:Int)]).length<F - out.length
    rw [List.length_append];simp;omega
  ·rw [if_neg (by simp)]
   exact W.req_i (by show _/\_;omega) (skip (by omega) fun g=>hc g.2)
  ·obtain rfl:j=i:=by omega
   unfold ref22_Order.j3
   simp only
   rw [if_pos trivial]
   refine hout2 _ ?_
   have:pickF l times held 0 j=none:=by rw [hpk,Nat.sub_self];rfl
   rw [<- hG] at H2
   simp only [goO,this] at H2
   exact H2
 ·obtain rfl:f=0:=by omega
  unfold ref22_Order.j2
  rw [<- hG] at H2
  exact H2
theorem ref22_Peak_run {n:Int} {os:List Int} {Q:List Int×List Int×Int->Prop} (hos:os.length<=281474976710656) (H:∀ o,PeakR n l os o->Q o):(ref22_Peak.f n l os).run Q:=by
 unfold ref22_Peak.f
 refine W.bd (ref22_flows_run fun e he=>W.run_if (fun c=>H _ (.inl ⟨e,c,he,rfl⟩)) fun c=>?_)
 have g:=he.good c
 have H1:Q (peakV n l os):=H _ (.inr ⟨g,rfl⟩)
 obtain ⟨gl,g0,g1,ok⟩:=g
 obtain ⟨N,rfl⟩:∃ N:Nat,n=N:=⟨n.toNat,by omega⟩
 rw [Int.toNat_natCast] at ok
 refine W.bd (ref22_begins_run gl (W.bd (ref22_begins_run gl ?_)))
 refine W.loop_c (fun s:List Int×List Int×Int=>∃ t:Nat,s.2.2=t/\t<=os.length/\s.1.length=l.length/\s.2.1.length=l.length/\(∀ j,j<t->0<=gd os j/\gd os j<N)/\(∀ j,j<l.length->-((64+60*t:Nat):Int)<=gd s.1 j/\gd s.1 j<=((64+60*t:Nat):Int))/\playM l (startL l) (startL l) os=playM l s.1 s.2.1 (os.drop t)) (fun s=>os.length - s.2.2.toNat) ⟨0,rfl,Nat.zero_le _,startL_len,startL_len,fun j hj=>by omega,fun j hj=>by
  have hf:=ok _ (gd_mem hj)
  have:=hf.s0
  have:=hf.s1
  simp only
  rw [startL_at hj];omega,rfl⟩ ?_
 rintro ⟨h,m,_⟩ P2 ⟨t,rfl,ht,hl,hm,hr,hB,hP⟩ hgo2 hbrk2 hout2
 simp only at hl hm hB hP hgo2 |-
 unfold ref22_Peak.l1
 simp only [gi_gd]
 have bad:t<os.length->¬ (0<=gd os t/\gd os t<N)->P2 (.out ([],[],1)):=fun h1 h2=>hout2 _ (by
  unfold peakV at H1
  rw [if_neg fun g=>h2 (g _ (gd_mem h1))] at H1
  exact H1)
 refine W.run_if (fun c2=>W.req_i (by omega) (W.run_if (fun c3=>bad (by omega) fun g=>by omega) fun c3=>W.req_i (by omega) (W.run_if (fun c4=>bad (by omega) fun g=>by omega) fun c4=>W.req_i (by omega) ?_))) fun c2=>hbrk2 _ ?_
 ·have hd:os.drop t=gd os t ::os.drop (t+1):=by rw [gd_lt (by omega)];exact List.drop_eq_getElem_cons (by omega)
  refine W.bd (ref22_fires_run ok hl (by omega) hB (fun hc=>?_) fun hc=>?_)
  ·rw [if_pos rfl]
   refine W.loop_c (fun s:List Int×Int=>∃ i:Nat,s.2=i/\i<=l.length/\s.1.length=l.length/\(∀ j,j<i->gd s.1 j=mx (gd m j) (gd (fireL l h (gd os t)) j))/\∀ j,i<=j->j<l.length->gd s.1 j=gd m j) (fun s=>l.length - s.2.toNat) ⟨0,rfl,Nat.zero_le _,hm,fun j hj=>by omega,fun j _ _=>rfl⟩ ?_
   rintro ⟨p,_⟩ P3 ⟨i,rfl,hi,k1,k2,k3⟩ hgo3 hbrk3 hout3
   simp only at k1 k2 k3 hgo3 |-
   unfold ref22_Peak.l2
   simp only [gi_gd,Int.toNat_natCast]
   have fl:=fireL_len (l:=l) (h:=h) (k:=gd os t)
   refine W.run_if (fun c5=>W.req_i (by omega) (W.req_i (by omega) (W.req_i (by omega) (hgo3 _ ⟨i+1,by simp,by omega,by simp [k1],fun j hj=>?_,fun j hj1 hj2=>?_⟩ (by simp;omega))))) fun c5=>hbrk3 _ ?_
   ·show gd (p.set i _) j=_
    rw [gd_set]
    by_cases e:i=j
    ·rw [if_pos ⟨e,by omega⟩,k3 i (Nat.le_refl _) (by omega),e]
    ·rw [if_neg fun g=>e g.1];exact k2 j (by omega)
   ·show gd (p.set i _) j=_
    rw [gd_set,if_neg (by omega)]
    exact k3 j (by omega) hj2
   ·obtain rfl:i=l.length:=by omega
    unfold ref22_Peak.j2
    refine hgo2 _ ⟨t+1,by simp,by omega,fl,k1,fun j hj=>?_,fun j hj=>?_,?_⟩ (by simp;omega)
    ·by_cases e:j=t
     ·rw [e];omega
     ·exact hr j (by omega)
    ·have:=CanF.bnd (k:=gd os t) ok hB j hj
     show -((64+60*(t+1):Nat):Int)<=gd (fireL l h (gd os t)) j/\gd (fireL l h (gd os t)) j<=((64+60*(t+1):Nat):Int)
     omega
    ·show playM l (startL l) (startL l) os=playM l (fireL l h (gd os t)) p (os.drop (t+1))
     rw [hP,hd,playM,if_pos hc,show p=maxL m (fireL l h (gd os t)) from list_gd_ext (by rw [k1,maxL_len,hm]) fun j hj=>by rw [k2 j (by omega),maxL_at (by omega)]]
  ·rw [if_neg (by simp)]
   refine hout2 _ ?_
   unfold peakV at H1
   rw [hP,hd,playM,if_neg hc] at H1
   split at H1 <;> exact H1
 ·obtain rfl:t=os.length:=by omega
  rw [List.drop_length] at hP
  have hin:∀ k ∈ os,0<=k/\k<(N:Int):=fun k hk=>by
   obtain ⟨j,hj,rfl⟩:=List.mem_iff_getElem.1 hk
   have:=hr j hj
   rwa [gd_lt hj] at this
  unfold peakV at H1
  rw [if_pos hin,hP] at H1
  unfold ref22_Peak.j1
  refine W.run_if (fun c3=>?_) fun c3=>?_
  ·rw [show playM l h m [] =some (h,m) from rfl] at H1
   simp only [if_pos (show 200<os.length by omega)] at H1
   exact H1
  ·rw [show playM l h m [] =some (h,m) from rfl] at H1
   simp only [if_neg (show ¬ 200<os.length by omega)] at H1
   exact H1
end
end Go.Proofs.Ytgbmmbfminafnaa.E
