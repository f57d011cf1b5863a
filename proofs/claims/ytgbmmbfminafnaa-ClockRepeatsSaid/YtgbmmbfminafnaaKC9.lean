/- Joined. -/
import Derived.Test.YtgbmmbfminafnaaKC8
set_option linter.unusedVariables false
set_option linter.unusedSimpArgs false
namespace Go.Proofs.Ytgbmmbfminafnaa.E
open Go Go.RowKit
theorem list_gd_ext {a b:List Int} (hl:a.length=b.length) (h:∀ k,k<a.length->gd a k=gd b k):a=b:=
 List.ext_getElem hl fun k h1 h2=>by have:=h k h1;rwa [gd_lt h1,gd_lt h2] at this
def CanF (l:List api_Flow) (h:List Int) (k:Int):Prop:=∀ i,i<l.length->(gd l i).B=k->(gd l i).Take<=gd h i
instance (l:List api_Flow) (h:List Int) (k:Int):Decidable (CanF l h k):=by unfold CanF;infer_instance
def dl (f:api_Flow) (k:Int):Int:=(if f.A=k then f.Put else 0) - (if f.B=k then f.Take else 0)
def fireL (l:List api_Flow) (h:List Int) (k:Int):List Int:=(List.range l.length).map fun i=>gd h i+dl (gd l i) k
theorem fireL_len {l:List api_Flow} {h:List Int} {k:Int} :(fireL l h k).length=l.length:=by simp [fireL]
theorem fireL_at {l:List api_Flow} {h:List Int} {k:Int} {i:Nat} (hi:i<l.length):gd (fireL l h k) i=gd h i+dl (gd l i) k:=by
 rw [gd_lt (by rw [fireL_len];exact hi)]
 simp [fireL]
section
variable {l:List api_Flow} {h:List Int} {k:Int}
theorem dl_le {n:Nat} {f:api_Flow} (hf:okF n f) (k:Int): -60<=dl f k/\dl f k<=60:=by
 have:=hf.p0;have:=hf.p1;have:=hf.t0;have:=hf.t1
 unfold dl
 split <;> split <;> omega
theorem clock_fire_run {n B:Nat} {Q:Bool×List Int->Prop} (ok:∀ f ∈ l,okF n f) (hl:h.length=l.length) (hB:B<=1000000000000000000) (hb:∀ i,i<l.length->-(B:Int)<=gd h i/\gd h i<=B) (H1:CanF l h k->Q (true,fireL l h k)) (H0: ¬ CanF l h k->Q (false,h)):(clock_fire.f l h k).run Q:=by
 unfold clock_fire.f
 refine W.loop_c (fun p=>∃ i:Nat,p=i/\i<=l.length/\∀ j,j<i->(gd l j).B=k->(gd l j).Take<=gd h j) (fun p=>l.length - p.toNat) ⟨0,rfl,Nat.zero_le _,fun j hj=>by omega⟩ ?_
 rintro _ P ⟨i,rfl,hi,hc⟩ hgo hbrk hout
 unfold clock_fire.l2
 simp only [gi_gd]
 have next:((gd l i).B=k->(gd l i).Take<=gd h i)->∀ j,j<i+1->(gd l j).B=k->(gd l j).Take<=gd h j:=fun g j hj=>by
  by_cases e:j=i
  ·rw [e];exact g
  ·exact hc j (by omega)
 refine W.run_if (fun c=>W.req_i (by omega) (W.run_if (fun c1=>W.req_i (by omega) (W.run_if (fun c2=>hout _ (H0 fun g=>?_)) fun c2=>hgo _ ⟨i+1,by simp,by omega,next fun _=>by omega⟩ (by simp;omega))) fun c1=>hgo _ ⟨i+1,by simp,by omega,next fun g=>absurd g c1⟩ (by simp;omega))) fun c=>hbrk _ ?_
 ·have:=g i (by omega) c1
  omega
 obtain rfl:i=l.length:=by omega
 unfold clock_fire.j1
 refine W.loop_c (fun s:List Int×Int=>∃ i:Nat,s.2=i/\i<=l.length/\s.1.length=l.length/\(∀ j,j<i->gd s.1 j=gd h j+dl (gd l j) k)/\∀ j,i<=j->j<l.length->gd s.1 j=gd h j) (fun s=>l.length - s.2.toNat) ⟨0,rfl,Nat.zero_le _,hl,fun j hj=>by omega,fun j _ _=>rfl⟩ ?_
 rintro ⟨p,_⟩ P2 ⟨i,rfl,hi,g1,g2,g3⟩ hgo2 hbrk2 hout2
 simp only at g1 g2 g3 hgo2 |-
 unfold clock_fire.l1 clock_fire.j3
 simp only [gi_gd,Int.toNat_natCast]
 refine W.run_if (fun c3=>W.req_i (by omega) ?_) fun c3=>hbrk2 _ ?_
 ·have hil:i<l.length:=by omega
  have hf:=ok _ (gd_mem hil)
  have p0:=hf.p0
  have p1:=hf.p1
  have t0:=hf.t0
  have t1:=hf.t1
  have hbi:=hb i hil
  have g4:=g3 i (Nat.le_refl _) hil
  have stepL:∀ x:Int,x=gd h i+dl (gd l i) k->P2 (.go (p.set i x,(i:Int)+1)):=fun x hx=>by
   refine hgo2 _ ⟨i+1,by simp,by omega,by rw [List.length_set];exact g1,fun j hj=>?_,fun j hj1 hj2=>?_⟩ (by simp;omega)
   ·show gd (p.set i x) j=_
    rw [gd_set]
    by_cases e:i=j
    ·rw [if_pos ⟨e,by omega⟩,hx,e]
    ·rw [if_neg fun g=>e g.1];exact g2 j (by omega)
   ·show gd (p.set i x) j=_
    rw [gd_set,if_neg (by omega)]
    exact g3 j (by omega) hj2
  have sset:∀ x y:Int,(p.set i x).set i y=p.set i y:=fun x y=>List.set_set ..
  have gset:∀ x:Int,gd (p.set i x) i=x:=fun x=>by rw [gd_set,if_pos ⟨rfl,by omega⟩]
  have same:gd h i+dl (gd l i) k=gd h i->P2 (.go (p,(i:Int)+1)):=fun e=>by
   have:=stepL (gd h i) (by rw [e])
   rwa [show p.set i (gd h i)=p from list_gd_ext (by simp) fun j hj=>by
    rw [gd_set]
    by_cases e:i=j
    ·rw [if_pos ⟨e,by omega⟩,<- g4,e]
    ·rw [if_neg fun g=>e g.1]] at this
  refine W.run_if (fun c4=>W.req_i (by omega) (W.req_i (by show _/\_;omega) (W.req_i (by omega) (W.run_if (fun c5=>?_) fun c5=>?_)))) fun c4=>W.run_if (fun c5=>?_) fun c5=>?_
  ·rw [List.length_set,gset,sset]
   exact W.req_i (by omega) (W.req_i (by show _/\_;omega) (W.req_i (by omega) (stepL _ (by unfold dl;rw [if_pos c4,if_pos c5];omega))))
  ·exact stepL _ (by unfold dl;rw [if_pos c4,if_neg c5];omega)
  ·exact W.req_i (by omega) (W.req_i (by show _/\_;omega) (W.req_i (by omega) (stepL _ (by unfold dl;rw [if_neg c4,if_pos c5];omega))))
  ·exact same (by unfold dl;rw [if_neg c4,if_neg c5];omega)
 ·obtain rfl:i=l.length:=by omega
  unfold clock_fire.j2
  have:=H1 (fun j hj hjk=>hc j hj hjk)
  rwa [show fireL l h k=p from list_gd_ext (by rw [fireL_len,g1]) fun j hj=>by
   rw [fireL_len] at hj
   rw [fireL_at hj,g2 j hj]] at this
end
def startL (l:List api_Flow):List Int:=l.map fun f=>f.Start
theorem startL_len {l:List api_Flow} :(startL l).length=l.length:=by simp [startL]
theorem startL_at {l:List api_Flow} {i:Nat} (hi:i<l.length):gd (startL l) i=(gd l i).Start:=by
 rw [gd_lt (by rw [startL_len];exact hi),gd_lt hi]
 simp [startL]
theorem starts_loop {l:List api_Flow} {R S:Type} {b:List Int->Int->W (Ctl (List Int×Int) R)} {D:List Int×Int->W S} {O:R->W S} {Q:S->Prop}
  (hb:∀ p i,b p i=if i<(l.length:Int) then W.req ((0:Int)<=i/\i<(l.length:Int)) (W.req ((0:Int)<=i/\i<(p.length:Int)) (W.ret (.go (p.set i.toNat (gi l i).Start,i+1)))) else W.ret (.brk (p,i)))
  (H:∀ i,(D (startL l,i)).run Q):(W.bind (W.loop (fun (s:List Int×Int)=>b s.1 s.2) (List.replicate l.length 0,0)) (Lp.on D O)).run Q:=by
 refine W.loop_c (fun s:List Int×Int=>∃ i:Nat,s.2=i/\i<=l.length/\s.1.length=l.length/\∀ j,j<i->gd s.1 j=(gd l j).Start) (fun s=>l.length - s.2.toNat) ⟨0,rfl,Nat.zero_le _,by simp,fun j hj=>by omega⟩ ?_
 rintro ⟨p,_⟩ P ⟨i,rfl,hi,g1,g2⟩ hgo hbrk hout
 simp only at g1 g2 hgo |-
 rw [hb]
 simp only [gi_gd,Int.toNat_natCast]
 refine W.run_if (fun c=>W.req_i (by omega) (W.req_i (by omega) (hgo _ ⟨i+1,by simp,by omega,by simp [g1],fun j hj=>?_⟩ (by simp;omega)))) fun c=>hbrk _ ?_
 ·show gd (p.set i _) j=_
  rw [gd_set]
  by_cases e:i=j
  ·rw [if_pos ⟨e,by omega⟩,e]
  ·rw [if_neg fun g=>e g.1];exact g2 j (by omega)
 ·obtain rfl:i=l.length:=by omega
  rw [show p=startL l from list_gd_ext (by rw [g1,startL_len]) fun j hj=>by rw [g2 j (by omega),startL_at (by omega)]]
  exact H _
end Go.Proofs.Ytgbmmbfminafnaa.E
namespace Go.Proofs.Ytgbmmbfminafnaa.E
open Go Go.RowKit
def maxL (m h:List Int):List Int:=(List.range m.length).map fun i=>mx (gd m i) (gd h i)
theorem maxL_len {m h:List Int} :(maxL m h).length=m.length:=by simp [maxL]
theorem maxL_at {m h:List Int} {i:Nat} (hi:i<m.length):gd (maxL m h) i=mx (gd m i) (gd h i):=by
 rw [gd_lt (by rw [maxL_len];exact hi)]
 simp [maxL]
def playM (l:List api_Flow):List Int->List Int->List Int->Option (List Int×List Int)
 | h,m,[]=>some (h,m)
 | h,m,k ::os=>if CanF l h k then playM l (fireL l h k) (maxL m (fireL l h k)) os else none
theorem playM_app {l:List api_Flow} :∀ (os ps h m:List Int),playM l h m (os ++ ps)=(playM l h m os).bind fun x=>playM l x.1 x.2 ps
 | [],ps,h,m=>rfl
 | k ::os,ps,h,m=>by
  simp only [List.cons_append,playM]
  split
  ·exact playM_app os ps _ _
  ·rfl
def pickF (l:List api_Flow) (times held:List Int):Nat->Nat->Option Nat
 | _,0=>none
 | k,f+1=>if gd times k>0/\CanF l held k then some k else pickF l times held (k+1) f
def goO (l:List api_Flow) (n:Nat):Nat->List Int->List Int->List Int->List Int×Bool
 | 0,_,_,out=>(out,true)
 | f+1,times,held,out=>match pickF l times held 0 n with
  | none=>(out,false)
  | some k=>goO l n f (times.set k (gd times k - 1)) (fireL l held k) (out ++ [(k:Int)])
def isum:Nat->(Nat->Int)->Int
 | 0,_=>0
 | n+1,f=>isum n f+f n
theorem isum_congr {n:Nat} {f g:Nat->Int} (h:∀ k,k<n->f k=g k):isum n f=isum n g:=by
 induction n with
 | zero=>rfl
 | succ n ih=>rw [isum,isum,ih fun k hk=>h k (by omega),h n (Nat.lt_succ_self _)]
theorem isum_set {n k:Nat} {f g:Nat->Int} (hk:k<n) (h:∀ i,i<n->i≠k->g i=f i):isum n g=isum n f - f k+g k:=by
 induction n with
 | zero=>omega
 | succ n ih=>
  rw [isum,isum]
  by_cases e:k=n
  ·rw [isum_congr (n:=n) (f:=g) (g:=f) fun i hi=>h i (by omega) (by omega),e];omega
  ·rw [ih (by omega) fun i hi=>h i (by omega),h n (Nat.lt_succ_self _) (by omega)];omega
section
variable {l:List api_Flow} {N:Nat}
theorem CanF.bnd {h:List Int} {k:Int} (ok:∀ f ∈ l,okF N f) {B:Nat} (hb:∀ i,i<l.length->-(B:Int)<=gd h i/\gd h i<=B):∀ i,i<l.length->-((B+60:Nat):Int)<=gd (fireL l h k) i/\gd (fireL l h k) i<=((B+60:Nat):Int):=fun i hi=>by
 rw [fireL_at hi]
 have:=hb i hi
 have:=dl_le (ok _ (gd_mem hi)) k
 omega
structure OInv (N:Nat) (l:List api_Flow) (T:Nat->Int) (f:Nat) (times held out:List Int):Prop where
 tl:times.length=N
 tn:∀ k,k<N->0<=gd times k/\gd times k<=T k
 ts:isum N (gd times)=f
 hl:held.length=l.length
 pl:∃ m,playM l (startL l) (startL l) out=some (held,m)
 hv:∀ i,i<l.length->gd held i=(gd l i).Start+(gd l i).Put*(T (gd l i).A.toNat - gd times (gd l i).A.toNat) - (gd l i).Take*(T (gd l i).B.toNat - gd times (gd l i).B.toNat)
 os:∀ k ∈ out,0<=k/\k<N
theorem OInv.step {T:Nat->Int} {f k:Nat} {times held out:List Int} (ok:∀ f ∈ l,okF N f) (h:OInv N l T (f+1) times held out) (hk:k<N) (hp:gd times k>0) (hc:CanF l held k):OInv N l T f (times.set k (gd times k - 1)) (fireL l held k) (out ++ [(k:Int)]):=by
 have gs:∀ j,j<N->gd (times.set k (gd times k - 1)) j=if j=k then gd times k - 1 else gd times j:=fun j hj=>by
  rw [gd_set]
  by_cases e:k=j
  ·rw [if_pos ⟨e,by rw [h.tl];exact hj⟩,if_pos e.symm]
  ·rw [if_neg fun g=>e g.1,if_neg (Ne.symm e)]
 obtain ⟨m,hm⟩:=h.pl
 refine ⟨by rw [List.length_set,h.tl],fun j hj=>?_,?_,fireL_len,⟨maxL m (fireL l held (k:Int)),by rw [playM_app,hm];simp only [Option.bind_some,playM,if_pos hc]⟩,fun i hi=>?_,fun j hj=>?_⟩
 ·rw [gs j hj]
  have:=h.tn j hj
  split
  ·rename_i e;subst e;omega
  ·exact this
 ·rw [isum_set (f:=gd times) hk fun i hi hne=>by rw [gs i hi,if_neg hne],gs k hk,if_pos rfl,h.ts];omega
 ·have hf:=ok _ (gd_mem hi)
  have a0:=hf.a0
  have b0:=hf.b0
  rw [fireL_at hi,h.hv i hi,gs _ hf.an,gs _ hf.bn]
  unfold dl
  by_cases ea:(gd l i).A=k
  ·rw [if_pos ea,if_pos (by omega:(gd l i).A.toNat=k)]
   have e1:(gd l i).A.toNat=k:=by omega
   by_cases eb:(gd l i).B=k
   ·rw [if_pos eb,if_pos (by omega:(gd l i).B.toNat=k),e1,show (gd l i).B.toNat=k by omega]
    grind
   ·rw [if_neg eb,if_neg (by omega: ¬ (gd l i).B.toNat=k),e1]
    grind
  ·rw [if_neg ea,if_neg (by omega: ¬ (gd l i).A.toNat=k)]
   by_cases eb:(gd l i).B=k
   ·rw [if_pos eb,if_pos (by omega:(gd l i).B.toNat=k),show (gd l i).B.toNat=k by omega]
    grind
   ·rw [if_neg eb,if_neg (by omega: ¬ (gd l i).B.toNat=k)]
    grind
 ·rcases List.mem_append.1 hj with hj | hj
  ·exact h.os j hj
  ·have:j=(k:Int):=by simpa using hj
   omega
def OrdR (n:Int) (l:List api_Flow) (o:List Int×Bool×Int):Prop:=
 ∃ a,RepR n l a/\((a.2.2≠0/\o=([],false,a.2.2))\/∃ T,Good n l/\RepOk n.toNat l a T/\(∀ j,j<l.length->Bal n.toNat (l.take (j+1)))/\((200<isum n.toNat T/\o=([],false,3))\/(isum n.toNat T<=200/\o=((goO l n.toNat (isum n.toNat T).toNat a.1 (startL l) []).1,(goO l n.toNat (isum n.toNat T).toNat a.1 (startL l) []).2,0))))
theorem RepR.ok {n:Int} {a:List Int×Int×Int} (h:RepR n l a) (h0: ¬ a.2.2≠0):∃ T,Good n l/\RepOk n.toNat l a T/\∀ j,j<l.length->Bal n.toNat (l.take (j+1)):=by
 rcases h with ⟨e,e1,e2,rfl⟩ | ⟨g,⟨i,_,_,_,rfl⟩ | ⟨hb,⟨r,T,k,_,_,_,_,_,rfl⟩ | ⟨T,hT⟩⟩⟩
 ·exact absurd e1 h0
 ·exact absurd (show (9:Int)≠0 by decide) h0
 ·exact absurd (show (3:Int)≠0 by decide) h0
 ·exact ⟨T,g,hT,hb⟩
theorem clock_Order_run {n:Int} {Q:List Int×Bool×Int->Prop} (H:∀ o,OrdR n l o->Q o):(clock_Order.f n l).run Q:=by
 unfold clock_Order.f
 refine W.bd (clock_Repeats_run fun a ha=>W.run_if (fun c=>H _ ⟨a,ha,.inl ⟨c,rfl⟩⟩) fun c=>?_)
 obtain ⟨T,g,hT,hb⟩:=ha.ok c
 have H1:∀ o,((200<isum n.toNat T/\o=([],false,3))\/(isum n.toNat T<=200/\o=((goO l n.toNat (isum n.toNat T).toNat a.1 (startL l) []).1,(goO l n.toNat (isum n.toNat T).toNat a.1 (startL l) []).2,0)))->Q o:=fun o ho=>H o ⟨a,ha,.inr ⟨T,g,hT,hb,ho⟩⟩
 obtain ⟨gl,g0,g1,ok⟩:=g
 obtain ⟨N,rfl⟩:∃ N:Nat,n=N:=⟨n.toNat,by omega⟩
 rw [Int.toNat_natCast] at *
 obtain ⟨t1,t2,t3,t4,t5⟩:=hT
 have tp:∀ k,k<N->0<T k:=fun k hk=>(t1 k hk).pos k hk .refl
 refine W.loop_c (fun s:Int×Int=>∃ i:Nat,s.2=i/\i<=N/\s.1=isum i T/\0<=s.1/\s.1<=64*i) (fun s=>N - s.2.toNat) ⟨0,rfl,Nat.zero_le _,rfl,by simp,by simp⟩ ?_
 rintro ⟨_,_⟩ P ⟨i,rfl,hi,rfl,s0,s1⟩ hgo hbrk hout
 simp only at s0 s1 hgo |-
 unfold clock_Order.l4
 rw [gi_gd,t4]
 refine W.run_if (fun c1=>W.req_i (by omega) ?_) fun c1=>hbrk _ ?_
 ·have h1:=tp i (by omega)
  have h2:=t2 i (by omega)
  rw [t5 i (by omega)]
  exact W.req_i (by show _/\_;omega) (hgo _ ⟨i+1,by simp,by omega,rfl,by simp only;omega,by simp only;omega⟩ (by simp;omega))
 obtain rfl:i=N:=by omega
 unfold clock_Order.j1
 refine W.run_if (fun c2=>H1 _ (.inl ⟨by omega,rfl⟩)) fun c2=>W.req_i (by omega) ?_
 rw [Int.toNat_natCast]
 refine starts_loop (b:=clock_Order.l3 l) (fun p i=>rfl) fun _=>?_
 unfold clock_Order.j2
 have H2:=H1 _ (.inr ⟨by omega,rfl⟩)
 obtain ⟨F,hF⟩:∃ F:Nat,isum i T=F:=⟨(isum i T).toNat,by omega⟩
 rw [hF,Int.toNat_natCast] at H2
 rw [hF]
 have inv0:OInv i l T F a.1 (startL l) []:=⟨t4,fun k hk=>by have:=tp k hk;rw [t5 k hk];omega,by rw [isum_congr t5,hF],startL_len,⟨_,rfl⟩,fun j hj=>by
  have hf:=ok _ (gd_mem hj)
  rw [startL_at hj,t5 _ hf.an,t5 _ hf.bn];simp,fun k hk=>by simp at hk⟩
 refine W.loop_c (fun s:List Int×List Int×List Int=>∃ f:Nat,f<=F/\s.2.2.length=F - f/\OInv i l T f s.1 s.2.1 s.2.2/\(∀ j,j<l.length->-((64+60*(F - f):Nat):Int)<=gd s.2.1 j/\gd s.2.1 j<=((64+60*(F - f):Nat):Int))/\goO l i f s.1 s.2.1 s.2.2=goO l i F a.1 (startL l) []) (fun s=>F - s.2.2.length) ⟨F,Nat.le_refl _,by simp,inv0,fun j hj=>by
  have hf:=ok _ (gd_mem hj)
  have:=hf.s0
  have:=hf.s1
  simp only
  rw [startL_at hj];omega,rfl⟩ ?_
 rintro ⟨times,held,out⟩ P2 ⟨f,hf,hol,hI,hB,hG⟩ hgo2 hbrk2 hout2
 simp only at hol hI hB hG hgo2 |-
 unfold clock_Order.l1
 have htl:=hI.tl
 refine W.run_if (fun c3=>?_) fun c3=>hbrk2 _ ?_
 ·obtain ⟨f,rfl⟩:∃ f',f=f'+1:=⟨f - 1,by omega⟩
  have hsn:∀ j,j<=i->pickF l times held 0 i=pickF l times held j (i - j)->(W.bind (W.loop (fun (s:List Int×List Int×List Int×Int)=>clock_Order.l2 (i:Int) l s.1 s.2.1 s.2.2.1 s.2.2.2) (times,held,out,(j:Int))) (Lp.on (fun s=>clock_Order.j4 s.2.2.1) (fun r=>W.ret r))).run P2:=fun j hj hpk=>by
   refine W.loop_c (fun s:List Int×List Int×List Int×Int=>∃ j:Nat,s=(times,held,out,(j:Int))/\j<=i/\pickF l times held 0 i=pickF l times held j (i - j)) (fun s=>i - s.2.2.2.toNat) ⟨j,rfl,hj,hpk⟩ ?_
   rintro _ P3 ⟨j,rfl,hj,hpk⟩ hgo3 hbrk3 hout3
   simp only at hgo3 |-
   unfold clock_Order.l2
   simp only [gi_gd,Int.toNat_natCast]
   have skip:j<i->¬ (gd times j>0/\CanF l held j)->P3 (.go (times,held,out,(j:Int)+1)):=fun h1 h2=>by
    refine hgo3 _ ⟨j+1,by simp,by omega,?_⟩ (by simp;omega)
    rw [hpk,show i - j=i - (j+1)+1 by omega,pickF,if_neg h2]
   refine W.run_if (fun c4=>W.req_i (by omega) (W.run_if (fun c5=>W.bd (clock_fire_run ok hI.hl (by omega) hB (fun hc=>?_) fun hc=>?_)) fun c5=>skip (by omega) fun g=>c5 g.1)) fun c4=>hbrk3 _ ?_
   ·have htn:=hI.tn j (by omega)
    rw [if_pos rfl]
    refine W.req_i (by omega) (W.req_i (by omega) (W.req_i (by omega) (hout3 _ (hgo2 _ ⟨f,by omega,?_,hI.step ok (by omega) c5 hc,fun q hq=>?_,?_⟩ ?_))))
    ·show (out ++ [(j:Int)]).length=F - f
     rw [List.length_append,hol];simp;omega
    ·have:=CanF.bnd (k:=(j:Int)) ok hB q hq
     show -((64+60*(F - f):Nat):Int)<=gd (fireL l held j) q/\gd (fireL l held j) q<=((64+60*(F - f):Nat):Int)
     omega
    ·rw [<- hG]
     have:pickF l times held 0 i=some j:=by rw [hpk,show i - j=i - (j+1)+1 by omega,pickF,if_pos ⟨c5,hc⟩]
     simp only [goO,this]
    ·show F - (out ++ [(j:Int)]).length<F - out.length
     rw [List.length_append];simp;omega
   ·rw [if_neg (by simp)]
    exact skip (by omega) fun g=>hc g.2
   ·obtain rfl:j=i:=by omega
    unfold clock_Order.j4
    refine hout2 _ ?_
    have:pickF l times held 0 j=none:=by rw [hpk,Nat.sub_self];rfl
    rw [<- hG] at H2
    simp only [goO,this] at H2
    exact H2
  exact hsn 0 (Nat.zero_le _) (by rw [Nat.sub_zero])
 ·obtain rfl:f=0:=by omega
  unfold clock_Order.j3
  rw [<- hG] at H2
  exact H2
end
end Go.Proofs.Ytgbmmbfminafnaa.E
