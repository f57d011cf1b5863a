/- Peak, Same, the document's example, and the law ClockPeriod. -/
import Derived.Test.YtgbmmbfminafnaaKC9
set_option linter.unusedVariables false
set_option linter.unusedSimpArgs false
namespace Go.Proofs.Ytgbmmbfminafnaa.E
open Go Go.RowKit
open Classical in
noncomputable def peakV (n:Int) (l:List api_Flow) (os:List Int):List Int×List Int×Int:=
 if ∀ k ∈ os,0<=k/\k<n then (match playM l (startL l) (startL l) os with
  | none=>([],[],1)
  | some x=>if 200<os.length then ([],[],3) else (x.1,x.2,0)) else ([],[],1)
def PeakR (n:Int) (l:List api_Flow) (os:List Int) (o:List Int×List Int×Int):Prop:=(∃ e,e≠0/\FlowsR n l e/\o=([],[],e))\/(Good n l/\o=peakV n l os)
theorem FlowsR.good {n:Int} {l:List api_Flow} {e:Int} (he:FlowsR n l e) (c: ¬ e≠0):Good n l:=by
 rcases he with ⟨_,h⟩ | ⟨h,_⟩ | ⟨h,_⟩
 ·exact h
 ·omega
 ·omega
section
variable {l:List api_Flow}
theorem clock_Peak_run {n:Int} {os:List Int} {Q:List Int×List Int×Int->Prop} (hos:os.length<=281474976710656) (H:∀ o,PeakR n l os o->Q o):(clock_Peak.f n l os).run Q:=by
 unfold clock_Peak.f
 refine W.bd (clock_flows_run fun e he=>W.run_if (fun c=>H _ (.inl ⟨e,c,he,rfl⟩)) fun c=>?_)
 have g:=he.good c
 have H1:Q (peakV n l os):=H _ (.inr ⟨g,rfl⟩)
 obtain ⟨gl,g0,g1,ok⟩:=g
 obtain ⟨N,rfl⟩:∃ N:Nat,n=N:=⟨n.toNat,by omega⟩
 rw [Int.toNat_natCast] at ok
 refine W.loop_c (fun p=>∃ i:Nat,p=i/\i<=os.length/\∀ j,j<i->0<=gd os j/\gd os j<N) (fun p=>os.length - p.toNat) ⟨0,rfl,Nat.zero_le _,fun j hj=>by omega⟩ ?_
 rintro _ P ⟨i,rfl,hi,hr⟩ hgo hbrk hout
 unfold clock_Peak.l4
 simp only [gi_gd]
 have bad:i<os.length->¬ (0<=gd os i/\gd os i<N)->P (.out ([],[],1)):=fun h1 h2=>hout _ (by
  unfold peakV at H1
  rw [if_neg fun g=>h2 (g _ (gd_mem h1))] at H1
  exact H1)
 refine W.run_if (fun c1=>W.req_i (by omega) (W.run_if (fun c2=>bad (by omega) fun g=>by omega) fun c2=>W.run_if (fun c3=>bad (by omega) fun g=>by omega) fun c3=>hgo _ ⟨i+1,by simp,by omega,fun j hj=>?_⟩ (by simp;omega))) fun c1=>hbrk _ ?_
 ·by_cases e:j=i
  ·rw [e];omega
  ·exact hr j (by omega)
 obtain rfl:i=os.length:=by omega
 have hin:∀ k ∈ os,0<=k/\k<(N:Int):=fun k hk=>by
  obtain ⟨j,hj,rfl⟩:=List.mem_iff_getElem.1 hk
  have:=hr j hj
  rwa [gd_lt hj] at this
 unfold peakV at H1
 rw [if_pos hin] at H1
 unfold clock_Peak.j1
 refine W.req_i (by omega) ?_
 rw [Int.toNat_natCast]
 refine starts_loop (b:=clock_Peak.l3 l) (fun p i=>rfl) fun _=>?_
 unfold clock_Peak.j2
 refine W.req_i (by show (startL l).length<=_;rw [startL_len];omega) ?_
 refine W.loop_c (fun s:List Int×List Int×Int=>∃ t:Nat,s.2.2=t/\t<=os.length/\s.1.length=l.length/\s.2.1.length=l.length/\(∀ j,j<l.length->-((64+60*t:Nat):Int)<=gd s.1 j/\gd s.1 j<=((64+60*t:Nat):Int))/\playM l (startL l) (startL l) os=playM l s.1 s.2.1 (os.drop t)) (fun s=>os.length - s.2.2.toNat) ⟨0,rfl,Nat.zero_le _,startL_len,startL_len,fun j hj=>by
  have hf:=ok _ (gd_mem hj)
  have:=hf.s0
  have:=hf.s1
  simp only
  rw [startL_at hj];omega,rfl⟩ ?_
 rintro ⟨h,m,_⟩ P2 ⟨t,rfl,ht,hl,hm,hB,hP⟩ hgo2 hbrk2 hout2
 simp only at hl hm hB hP hgo2 |-
 unfold clock_Peak.l1
 simp only [gi_gd]
 refine W.run_if (fun c2=>W.req_i (by omega) ?_) fun c2=>hbrk2 _ ?_
 ·have hd:os.drop t=gd os t ::os.drop (t+1):=by rw [gd_lt (by omega)];exact List.drop_eq_getElem_cons (by omega)
  refine W.bd (clock_fire_run ok hl (by omega) hB (fun hc=>?_) fun hc=>?_)
  ·rw [if_pos rfl]
   refine W.loop_c (fun s:List Int×Int=>∃ i:Nat,s.2=i/\i<=l.length/\s.1.length=l.length/\(∀ j,j<i->gd s.1 j=mx (gd m j) (gd (fireL l h (gd os t)) j))/\∀ j,i<=j->j<l.length->gd s.1 j=gd m j) (fun s=>l.length - s.2.toNat) ⟨0,rfl,Nat.zero_le _,hm,fun j hj=>by omega,fun j _ _=>rfl⟩ ?_
   rintro ⟨p,_⟩ P3 ⟨i,rfl,hi,k1,k2,k3⟩ hgo3 hbrk3 hout3
   simp only at k1 k2 k3 hgo3 |-
   unfold clock_Peak.l2
   simp only [gi_gd,Int.toNat_natCast]
   have fl:=fireL_len (l:=l) (h:=h) (k:=gd os t)
   refine W.run_if (fun c3=>W.req_i (by omega) (W.req_i (by omega) (W.req_i (by omega) (hgo3 _ ⟨i+1,by simp,by omega,by simp [k1],fun j hj=>?_,fun j hj1 hj2=>?_⟩ (by simp;omega))))) fun c3=>hbrk3 _ ?_
   ·show gd (p.set i _) j=_
    rw [gd_set]
    by_cases e:i=j
    ·rw [if_pos ⟨e,by omega⟩,k3 i (Nat.le_refl _) (by omega),e]
    ·rw [if_neg fun g=>e g.1];exact k2 j (by omega)
   ·show gd (p.set i _) j=_
    rw [gd_set,if_neg (by omega)]
    exact k3 j (by omega) hj2
   ·obtain rfl:i=l.length:=by omega
    unfold clock_Peak.j4
    refine hgo2 _ ⟨t+1,by simp,by omega,fl,k1,fun j hj=>?_,?_⟩ (by simp;omega)
    ·have:=CanF.bnd (k:=gd os t) ok hB j hj
     show -((64+60*(t+1):Nat):Int)<=gd (fireL l h (gd os t)) j/\gd (fireL l h (gd os t)) j<=((64+60*(t+1):Nat):Int)
     omega
    ·show playM l (startL l) (startL l) os=playM l (fireL l h (gd os t)) p (os.drop (t+1))
     rw [hP,hd,playM,if_pos hc,show p=maxL m (fireL l h (gd os t)) from list_gd_ext (by rw [k1,maxL_len,hm]) fun j hj=>by rw [k2 j (by omega),maxL_at (by omega)]]
  ·rw [if_neg (by simp)]
   refine hout2 _ ?_
   rw [hP,hd,playM,if_neg hc] at H1
   exact H1
 ·obtain rfl:t=os.length:=by omega
  rw [List.drop_length] at hP
  rw [hP] at H1
  unfold clock_Peak.j3
  refine W.run_if (fun c3=>?_) fun c3=>?_
  ·rw [show playM l h m [] =some (h,m) from rfl] at H1
   simp only [if_pos (show 200<os.length by omega)] at H1
   exact H1
  ·rw [show playM l h m [] =some (h,m) from rfl] at H1
   simp only [if_neg (show ¬ 200<os.length by omega)] at H1
   exact H1
theorem ref14_Same_run {a b:List Int} {Q:Bool->Prop} (H:Q (decide (a=b))):(ref14_Same.f a b).run Q:=by
 unfold ref14_Same.f
 refine W.loop_c (fun p=>∃ i:Nat,p=i/\i<=a.length/\i<=b.length/\∀ j,j<i->gd a j=gd b j) (fun p=>a.length - p.toNat) ⟨0,rfl,Nat.zero_le _,Nat.zero_le _,fun j hj=>by omega⟩ ?_
 rintro _ P ⟨i,rfl,hi,hi2,hr⟩ hgo hbrk hout
 unfold ref14_Same.l1
 simp only [gi_gd]
 have fin:a.length<=i\/b.length<=i->(ref14_Same.j1 a b).run Q:=fun g=>by
  unfold ref14_Same.j1
  show Q _
  rwa [show decide ((a.length:Int)=(b.length:Int))=decide (a=b) from decide_eq_decide.2 ⟨fun e=>list_gd_ext (by omega) fun k hk=>hr k (by omega),fun e=>by rw [e]⟩]
 refine W.run_if (fun c=>W.run_if (fun c1=>W.req_i (by omega) (W.req_i (by omega) (W.run_if (fun c2=>hout _ ?_) fun c2=>hgo _ ⟨i+1,by simp,by omega,by omega,fun j hj=>?_⟩ (by simp;omega)))) fun c1=>hbrk _ (fin (.inr (by omega)))) fun c=>hbrk _ (fin (.inl (by omega)))
 ·show Q false
  rwa [decide_eq_false fun e=>c2 (by rw [e])] at H
 ·by_cases e:j=i
  ·rw [e];exact Classical.byContradiction c2
  ·exact hr j (by omega)
end
def exF:api_Flow:=⟨0,1,2,3,0⟩
theorem ex_good:Good 2 [exF]:=⟨by decide,by decide,by decide,fun f hf=>by
 rw [List.mem_singleton.1 hf]
 exact ⟨by decide,by decide,by decide,by decide,by decide,by decide,by decide,by decide,by decide,by decide⟩⟩
theorem ex_flows {e:Int} (h:FlowsR 2 [exF] e):e=0:=by
 rcases h with ⟨h,_⟩ | ⟨_,h⟩ | ⟨_,_,h⟩
 ·exact h
 ·simp at h
 ·exact absurd ex_good h
theorem ex_cn (k:Nat) (hk:k<2):Cn ([exF].map fN) 0 k:=by
 have:k=0\/k=1:=by omega
 rcases this with rfl | rfl
 ·exact .refl
 ·exact Cn.refl.step (.inl (by decide))
theorem ex_prim {r:Nat} {T:Nat->Int} (hr:r<2) (h:Prim 2 [exF] r T):T 0=3/\T 1=2:=by
 have h:=h.to (ex_cn r hr).symm
 have p0:=h.pos 0 (by decide) .refl
 have p1:=h.pos 1 (by decide) (ex_cn 1 (by decide))
 have s:(2:Int)*T 0=3*T 1:=h.sat exF (List.mem_singleton.2 rfl) .refl
 have c:=h.cop (T 0 - T 1) fun k hk _=>by
  have:k=0\/k=1:=by omega
  rcases this with rfl | rfl
  ·exact ⟨3,by omega⟩
  ·exact ⟨2,by omega⟩
 have:T 0 - T 1<=1:=Int.le_of_dvd (by decide) c
 omega
theorem ex_bal:Bal 2 [exF]:=⟨fun k=>if k=0 then 3 else 2,fun k hk=>by
 show (0:Rat)<if k=0 then 3 else 2
 split <;> decide,fun f hf=>by
 rw [List.mem_singleton.1 hf]
 show ((2:Int):Rat)*3=((3:Int):Rat)*2
 grind⟩
theorem ex_rep {o:List Int×Int×Int} (h:RepR 2 [exF] o):o=([3,2],0,0):=by
 rcases h with ⟨e,e1,e2,rfl⟩ | ⟨g,⟨i,i1,i2,_,rfl⟩ | ⟨hb,⟨r,T,k,r1,r2,k1,_,k2,rfl⟩ | ⟨T,t1,t2,t3,t4,t5⟩⟩⟩
 ·exact absurd (ex_flows e2) e1
 ·obtain rfl:i=0:=by simp at i1;exact i1
  exact absurd ex_bal i2
 ·obtain ⟨a,b⟩:=ex_prim r1 r2
  have:k=0\/k=1:=by have:k<2:=k1;omega
  rcases this with rfl | rfl <;> omega
 ·obtain ⟨a,b⟩:=ex_prim (r:=0) (by decide) (t1 0 (by decide))
  obtain ⟨o1,o2,o3⟩:=o
  have e:=t3
  simp only [Prod.mk.injEq] at e
  obtain ⟨rfl,rfl⟩:=e
  have:o1= [3,2]:=list_gd_ext t4 fun k hk=>by
   have hk:k<2:=by rw [t4] at hk;exact hk
   have:k=0\/k=1:=by omega
   rcases this with rfl | rfl
   ·rw [t5 0 (by decide),a];rfl
   ·rw [t5 1 (by decide),b];rfl
  rw [this]
theorem ex_ord {o:List Int×Bool×Int} (h:OrdR 2 [exF] o):o=([0,0,0,1,1],true,0):=by
 obtain ⟨a,ha,h⟩:=h
 obtain rfl:=ex_rep ha
 rcases h with ⟨h,_⟩ | ⟨T,_,hT,_,h⟩
 ·exact absurd rfl h
 ·obtain ⟨x,y⟩:=ex_prim (r:=0) (by decide) (hT.1 0 (by decide))
  have hs:isum (2:Int).toNat T=5:=by show (0+T 0)+T 1=5;omega
  rw [hs] at h
  rcases h with ⟨h,_⟩ | ⟨_,h⟩
  ·omega
  ·rw [h];decide
theorem law22_known_run {Q:Bool->Prop} (H:Q true):law22_known.f.run Q:=by
 unfold law22_known.f
 refine W.bd (clock_Repeats_run fun a ha=>W.bd (clock_Order_run fun o ho=>?_))
 obtain rfl:=ex_rep ha
 obtain rfl:=ex_ord ho
 refine W.bd (ref14_Same_run ?_)
 rw [if_pos (by simp),if_pos rfl]
 refine W.bd (ref14_Same_run ?_)
 rw [if_pos (by simp),if_pos rfl]
 exact H
theorem OInv.go {l:List api_Flow} {N:Nat} {T:Nat->Int} (ok:∀ f ∈ l,okF N f):∀ {f:Nat} {times held out:List Int},OInv N l T f times held out->∃ f' times' held',OInv N l T f' times' held' (goO l N f times held out).1/\((goO l N f times held out).2=true->f'=0)/\(goO l N f times held out).1.length<=out.length+f
 | 0,times,held,out,h=>⟨0,times,held,h,fun _=>rfl,Nat.le_refl _⟩
 | f+1,times,held,out,h=>by
  have hp:∀ f j k,pickF l times held j f=some k->k<j+f/\gd times k>0/\CanF l held k:=fun f=>by
   induction f with
   | zero=>intro j k g;simp [pickF] at g
   | succ f ih=>
    intro j k g
    unfold pickF at g
    split at g
    ·rename_i c
     injection g with g
     subst g
     exact ⟨by omega,c⟩
    ·have:=ih _ _ g
     exact ⟨by omega,this.2⟩
  unfold goO
  cases e:pickF l times held 0 N with
  | none=>exact ⟨f+1,times,held,h,fun g=>by simp at g,by simp⟩
  | some k=>
   obtain ⟨k1,k2,k3⟩:=hp _ _ _ e
   obtain ⟨f',t',h',g1,g2,g3⟩:=OInv.go ok (h.step ok (by omega) k2 k3)
   exact ⟨f',t',h',g1,g2,by simp only [List.length_append,List.length_singleton] at g3;simp only;omega⟩
theorem law22_ClockPeriod_run {n:Int} {l:List api_Flow} :(law22_ClockPeriod.f n l).run fun b=>b=true:=by
 unfold law22_ClockPeriod.f
 refine W.bd (clock_Order_run fun o ho=>W.run_if (fun c=>W.bd (law22_known_run rfl)) fun c=>?_)
 obtain ⟨a,ha,⟨h,rfl⟩ | ⟨T,g,hT,hb,⟨_,rfl⟩ | ⟨hs,rfl⟩⟩⟩:=ho
 ·exact absurd h c
 ·exact absurd (show (3:Int)≠0 by decide) c
 clear c
 obtain ⟨gl,g0,g1,ok⟩:=id g
 obtain ⟨N,rfl⟩:∃ N:Nat,n=N:=⟨n.toNat,by omega⟩
 rw [Int.toNat_natCast] at *
 obtain ⟨t1,t2,t3,t4,t5⟩:=hT
 have tp:∀ k,k<N->0<T k:=fun k hk=>(t1 k hk).pos k hk .refl
 have nn:=(isum_nn (f:=T) fun k hk=>Int.le_of_lt (tp k hk)).1
 obtain ⟨F,hF⟩:∃ F:Nat,isum N T=F:=⟨(isum N T).toNat,by omega⟩
 rw [hF,Int.toNat_natCast]
 have inv0:OInv N l T F a.1 (startL l) []:=⟨t4,fun k hk=>by have:=tp k hk;rw [t5 k hk];omega,by rw [isum_congr t5,hF],startL_len,⟨_,rfl⟩,fun j hj=>by
  have hf:=ok _ (gd_mem hj)
  rw [startL_at hj,t5 _ hf.an,t5 _ hf.bn];simp,fun k hk=>by simp at hk⟩
 obtain ⟨f',times,held,hI,hz,hlen⟩:=inv0.go ok
 generalize goO l N F a.1 (startL l) [] =r at hI hz hlen
 obtain ⟨os,is⟩:=r
 simp only at hI hz hlen |-
 refine W.bd (clock_Peak_run (by simp at hlen;omega) fun p hp=>?_)
 have hpk:∃ m,p=(held,m,0):=by
  rcases hp with ⟨e,e1,e2,_⟩ | ⟨_,rfl⟩
  ·rcases e2 with ⟨e2,_⟩ | ⟨_,e2⟩ | ⟨_,_,e2⟩
   ·exact absurd e2 e1
   ·omega
   ·exact absurd g e2
  ·obtain ⟨m,hm⟩:=hI.pl
   refine ⟨m,?_⟩
   unfold peakV
   rw [if_pos hI.os,hm]
   simp only
   rw [if_neg (by simp at hlen;omega)]
 obtain ⟨m,rfl⟩:=hpk
 have hhl:=hI.hl
 rw [if_neg (by simp),if_neg (by simp only;omega)]
 refine W.loop_c (fun p=>∃ i:Nat,p=i/\i<=l.length) (fun p=>l.length - p.toNat) ⟨0,rfl,Nat.zero_le _⟩ ?_
 rintro _ P ⟨i,rfl,hi⟩ hgo hbrk hout
 unfold law22_ClockPeriod.l1
 simp only [gi_gd]
 have fin:(law22_ClockPeriod.j1).run fun b=>b=true:=by
  unfold law22_ClockPeriod.j1
  exact W.bd (law22_known_run rfl)
 refine W.run_if (fun c=>W.run_if (fun c1=>W.req_i (by omega) (W.req_i (by omega) (W.run_if (fun c2=>?_) fun c2=>hgo _ ⟨i+1,by simp,by omega⟩ (by simp;omega)))) fun c1=>hbrk _ fin) fun c=>hbrk _ fin
 exfalso
 obtain rfl:=hz c1
 have hil:i<l.length:=by omega
 have hf:=ok _ (gd_mem hil)
 have z:∀ k,k<N->gd times k=0:=fun k hk=>by
  have h1:=(isum_nn (f:=gd times) fun k hk=>(hI.tn k hk).1).2 k hk
  have h2:=(hI.tn k hk).1
  have h3:=hI.ts
  omega
 have:=hI.hv i hil
 rw [z _ hf.an,z _ hf.bn,Int.sub_zero,Int.sub_zero,(t1 _ hf.an).sat _ (gd_mem hil) .refl] at this
 omega
end Go.Proofs.Ytgbmmbfminafnaa.E
