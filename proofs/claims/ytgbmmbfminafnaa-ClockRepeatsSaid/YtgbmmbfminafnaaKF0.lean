/- Joined. -/
import Derived.Test.YtgbmmbfminafnaaKE0
import Derived.Test.YtgbmmbfminafnaaKM17
set_option linter.unusedVariables false
set_option linter.unusedSimpArgs false
namespace Go.Proofs.Ytgbmmbfminafnaa.E
theorem nodup_map {α β:Type} {f:α->β} :∀ {l:List α},l.Nodup->(∀ a b,a ∈ l->b ∈ l->f a=f b->a=b)->(l.map f).Nodup
 | [],_,_=>List.Pairwise.nil
 | a ::l,h,hi=>by
  have ⟨h1,h2⟩:=List.nodup_cons.1 h
  rw [List.map_cons,List.nodup_cons]
  refine ⟨fun hm=>?_,nodup_map h2 fun x y hx hy=>hi x y (List.mem_cons_of_mem _ hx) (List.mem_cons_of_mem _ hy)⟩
  obtain ⟨b,hb,e⟩:=List.mem_map.1 hm
  have:=hi b a (List.mem_cons_of_mem _ hb) (List.mem_cons_self ..) e
  exact h1 (this ▸ hb)
theorem nodup_fil {α:Type} {l:List α} {p:α->Bool} (h:l.Nodup):(l.filter p).Nodup:=List.Pairwise.filter p h
theorem fil_two {α:Type} (p q:α->Bool):∀ l:List α,(l.filter q).length=(l.filter fun i=>!p i && q i).length+(l.filter fun i=>p i && q i).length
 | []=>rfl
 | a ::l=>by
  have ih:=fil_two p q l
  simp only [List.filter_cons]
  cases hp:p a <;> cases hq:q a <;> simp <;> omega
theorem fil_le {α:Type} {p q:α->Bool} (h:∀ a,p a=true->q a=true):∀ l:List α,(l.filter p).length<=(l.filter q).length
 | []=>Nat.le_refl _
 | a ::l=>by
  have ih:=fil_le h l
  simp only [List.filter_cons]
  cases hp:p a
  ·cases hq:q a <;> simp <;> omega
  ·rw [h a hp];simp;exact ih
theorem fil_eq {α:Type} {p q:α->Bool} (h:∀ a,p a=true->q a=true):∀ {l:List α},(l.filter q).length<=(l.filter p).length->∀ a,a ∈ l->q a=true->p a=true
 | [],_,a,ha,_=>by cases ha
 | b ::l,hl,a,ha,hq=>by
  simp only [List.filter_cons] at hl
  cases hp:p b
  ·rw [hp] at hl
   have h1:=fil_le h l
   cases hqb:q b
   ·rw [hqb] at hl
    rcases List.mem_cons.1 ha with rfl | ha
    ·rw [hqb] at hq;cases hq
    ·exact fil_eq h (by simpa using hl) a ha hq
   ·rw [hqb] at hl
    simp at hl
    omega
  ·rw [hp,h b hp] at hl
   rcases List.mem_cons.1 ha with rfl | ha
   ·exact hp
   ·exact fil_eq h (by simpa using hl) a ha hq
section
variable {inc:Nat->Nat->Prop} {rs:List Nat} {m m':Nat->Option Nat} {R:Nat->Bool} {S:List Nat}
end
end Go.Proofs.Ytgbmmbfminafnaa.E
namespace Go.Proofs.Ytgbmmbfminafnaa.E
open Go Go.RowKit
theorem Red.ex0 {r c:Nat} (M:Nat->Nat->Rat):∀ k,k<=c->∃ M' piv,Red r c M M' k piv
 | 0,_=>⟨M,[],Red.init fun _ _ _ _=>rfl⟩
 | k+1,hk=>by
  obtain ⟨M1,piv,h1⟩:=Red.ex0 (r:=r) (c:=c) M k (by omega)
  by_cases hz:∀ i,piv.length<=i->i<r->M1 i k=0
  ·exact ⟨M1,piv,h1.skip hz⟩
  ·simp only [Classical.not_forall] at hz
   obtain ⟨p,hp1,hp2,hp3⟩:=hz
   exact ⟨_,_,h1.step (by omega) hp1 hp2 hp3⟩
theorem sol_ex0 {n:Nat} {A:Nat->Nat->Rat} {V:Nat->Rat} (hi:∀ z:Nat->Rat,(∀ i,i<n->dz n (A i) z=0)->∀ i,i<n->z i=0):∃ x,∀ i,i<n->dz n (A i) x=V i:=by
 obtain ⟨M',piv,h1⟩:=Red.ex0 (r:=n) (augM n A V) n (Nat.le_succ n)
 by_cases e:piv.length<n
 ·obtain ⟨u,⟨g,hg,hu⟩,hz⟩:=h1.free e
  exact absurd (hi u hz g hg) hu
 ·have:=h1.le
  exact ⟨fun a=>M' a n,(h1.solved (by omega) _).2 fun _ _=>rfl⟩
section
variable {r c:Nat} {A M:Nat->Nat->Rat} {piv:List Int}
theorem Red.aug0 (h:Red r c A M c piv):Red r (c+1) (augM c A fun _=>0) (augM c M fun _=>0) c piv:=by
 have e:∀ (N:Nat->Nat->Rat) i z,dz (c+1) (augM c N (fun _=>0) i) z=dz c (N i) z:=fun N i z=>by rw [dz_aug,Rat.zero_mul,Rat.add_zero]
 have lo:∀ (N:Nat->Nat->Rat) i j,j<c->augM c N (fun _=>0) i j=N i j:=fun N i j hj=>by unfold augM;rw [if_neg (by omega)]
 refine ⟨fun z=>?_,h.le,h.lt,fun a ha=>?_,fun a ha i hi hne=>?_,fun i h1 h2 j hj=>?_,fun a ha j hj=>?_,h.full,h.inc⟩
 ·simp only [e];exact h.ker z
 ·rw [lo _ _ _ (h.lt a ha).2];exact h.one a ha
 ·rw [lo _ _ _ (h.lt a ha).2];exact h.zero a ha i hi hne
 ·rw [lo _ _ _ hj];exact h.low i h1 h2 j hj
 ·have:=(h.lt a ha).2
  rw [lo _ _ _ (by omega)];exact h.left a ha j hj
theorem freeL_fil (piv:List Int):∀ n,(freeL piv n).length=((List.range n).filter fun k=>(pix piv k piv.length).isNone).length
 | 0=>rfl
 | n+1=>by
  have ih:=freeL_fil piv n
  rw [List.range_succ,List.filter_append,List.length_append,<- ih,show freeL piv (n+1)=if pix piv n piv.length=none then freeL piv n ++ [n] else freeL piv n from rfl]
  cases hp:pix piv n piv.length with
  | none=>simp [List.filter_cons,hp]
  | some a=>simp [List.filter_cons,hp]
theorem Red.count (h:Red r c A M c piv):(freeL piv c).length+piv.length=c:=by
 have h1:=fil_two (fun k=>(pix piv k piv.length).isSome) (fun _=>true) (List.range c)
 have h2:((List.range c).filter fun k=>(pix piv k piv.length).isSome).length=piv.length:=by
  have hinj:∀ a b,a ∈ List.range piv.length->b ∈ List.range piv.length->nd piv a=nd piv b->a=b:=fun a b ha hb e=>by
   have ha:=List.mem_range.1 ha
   have hb:=List.mem_range.1 hb
   rcases Nat.lt_trichotomy a b with g | g | g
   ·have:=h.inc a b hb g;omega
   ·exact g
   ·have:=h.inc b a ha g;omega
  have hl:((List.range piv.length).map (nd piv)).length=piv.length:=by simp
  refine Nat.le_antisymm (Nat.le_trans ?_ (Nat.le_of_eq hl)) (Nat.le_trans (Nat.le_of_eq hl.symm) ?_)
  ·refine (nodup_fil List.nodup_range).length_le_of_subset fun k hk=>?_
   rw [List.mem_filter] at hk
   cases hp:pix piv k piv.length with
   | none=>rw [hp] at hk;simp at hk
   | some a=>
    obtain ⟨p1,p2⟩:=pix_some hp
    exact List.mem_map.2 ⟨a,List.mem_range.2 p1,p2⟩
  ·refine (nodup_map List.nodup_range hinj).length_le_of_subset fun k hk=>?_
   obtain ⟨a,ha,rfl⟩:=List.mem_map.1 hk
   have ha:=List.mem_range.1 ha
   rw [List.mem_filter]
   refine ⟨List.mem_range.2 (h.lt a ha).2,?_⟩
   cases hp:pix piv (nd piv a) piv.length with
   | none=>exact absurd rfl (pix_none hp a ha)
   | some b=>rfl
 have h3:=freeL_fil piv c
 have h4:((List.range c).filter fun k=>!(pix piv k piv.length).isSome && true)=(List.range c).filter fun k=>(pix piv k piv.length).isNone:=List.filter_congr fun k _=>by cases pix piv k piv.length <;> rfl
 have h5:((List.range c).filter fun k=>(pix piv k piv.length).isSome && true)=(List.range c).filter fun k=>(pix piv k piv.length).isSome:=List.filter_congr fun k _=>by cases pix piv k piv.length <;> rfl
 have h6:((List.range c).filter fun _=>true).length=c:=by rw [List.filter_eq_self.2 fun _ _=>rfl,List.length_range]
 rw [h4,h5,h2,<- h3,h6] at h1
 omega
theorem frL_inj (piv:List Int):∀ n,∀ i j,i<(freeL piv n).length->j<(freeL piv n).length->gd (freeL piv n) i=gd (freeL piv n) j->i=j
 | 0,i,j,hi,_,_=>by simp [freeL] at hi
 | n+1,i,j,hi,hj,h=>by
  have ih:=frL_inj piv n
  have lt:∀ a,a<(freeL piv n).length->gd (freeL piv n) a<n:=fun a ha=>(freeL_mem.1 (gd_mem ha)).1
  unfold freeL at hi hj h
  split at hi
  ·rename_i e
   rw [if_pos e] at hj h
   rw [List.length_append] at hi hj
   simp only [List.length_singleton] at hi hj
   rw [gd_app,gd_app] at h
   by_cases e1:i<(freeL piv n).length
   ·have:=lt i e1
    by_cases e2:j<(freeL piv n).length
    ·rw [if_pos e1,if_pos e2] at h;exact ih i j e1 e2 h
    ·rw [if_pos e1,if_neg e2,show j - (freeL piv n).length=0 by omega] at h
     have h':gd (freeL piv n) i=n:=h
     omega
   ·by_cases e2:j<(freeL piv n).length
    ·have:=lt j e2
     rw [if_neg e1,if_pos e2,show i - (freeL piv n).length=0 by omega] at h
     have h':n=gd (freeL piv n) j:=h
     omega
    ·omega
  ·rename_i e
   rw [if_neg e] at hj h
   exact ih i j hi hj h
theorem dz_lin {n f:Nat} (a t:Nat->Rat) (b:Nat->Nat->Rat):dz n a (fun q=>sm f fun j=>t j*b j q)=sm f fun j=>t j*dz n a (b j):=by
 unfold dz
 rw [sm_congr (g:=fun q=>sm f fun j=>a q*(t j*b j q)) fun q _=>(sm_mul f (a q) _).symm,sm_exch]
 exact sm_congr fun j _=>by rw [<- sm_mul];exact sm_congr fun q _=>by grind
theorem Red.roots (h:Red r c A M c piv) {root:Nat->Nat} (inj:∀ v:Nat->Rat,(∀ i,i<r->dz c (A i) v=0)->(∀ g,g<(freeL piv c).length->v (root g)=0)->∀ q,q<c->v q=0) {g0:Nat} (hg0:g0<(freeL piv c).length) :
  ∃ v:Nat->Rat,(∀ i,i<r->dz c (A i) v=0)/\v (root g0)=1/\∀ g,g<(freeL piv c).length->g≠g0->v (root g)=0:=by
 have ha:=h.aug0
 have hmem:∀ j,j<(freeL piv c).length->gd (freeL piv c) j<c/\pix piv (gd (freeL piv c) j) piv.length=none:=fun j hj=>freeL_mem.1 (gd_mem hj)
 have comb:∀ t:Nat->Rat,∀ i,i<r->dz c (A i) (fun q=>sm (freeL piv c).length fun j=>t j*kv (augM c M fun _=>0) piv (gd (freeL piv c) j) q)=0:=fun t i hi=>by
  rw [dz_lin]
  exact sm_zero fun j hj=>by rw [ha.kv0 (hmem j hj).1 (hmem j hj).2 i hi,Rat.mul_zero]
 obtain ⟨x,hx⟩:=sol_ex0 (n:=(freeL piv c).length) (A:=fun g j=>kv (augM c M fun _=>0) piv (gd (freeL piv c) j) (root g)) (V:=fun g=>if g=g0 then 1 else 0) fun t ht j hj=>by
  have h0:=inj _ (comb t) (fun g hg=>by
   have:=ht g hg
   exact (sm_congr fun j _=>Rat.mul_comm _ _).trans this) (gd (freeL piv c) j) (hmem j hj).1
  rw [sm_one hj fun i hi hne=>by rw [kv_free (hmem j hj).2 fun e=>hne (frL_inj piv c i j hi hj e.symm),Rat.mul_zero],kv_self,Rat.mul_one] at h0
  exact h0
 refine ⟨_,comb x,?_,fun g hg hne=>?_⟩
 ·have:=hx g0 hg0
  rw [if_pos rfl] at this
  exact (sm_congr fun j _=>Rat.mul_comm _ _).trans this
 ·have:=hx g hg
  rw [if_neg hne] at this
  exact (sm_congr fun j _=>Rat.mul_comm _ _).trans this
end
end Go.Proofs.Ytgbmmbfminafnaa.E
namespace Go.Proofs.Ytgbmmbfminafnaa.E
def Aj (es:List (Nat×Nat)) (a b:Nat):Prop:=(a,b) ∈ es\/(b,a) ∈ es
inductive Cn (es:List (Nat×Nat)) (m:Nat):Nat->Prop
 | refl:Cn es m m
 | step {k k':Nat} :Cn es m k->Aj es k k'->Cn es m k'
section
variable {es:List (Nat×Nat)} {n m k:Nat}
theorem Aj.symm {a b:Nat} (h:Aj es a b):Aj es b a:=Or.symm h
theorem Cn.trans {a b c:Nat} (h:Cn es a b) (k:Cn es b c):Cn es a c:=by
 induction k with
 | refl=>exact h
 | step _ hj ih=>exact ih.step hj
theorem Cn.symm {a b:Nat} (h:Cn es a b):Cn es b a:=by
 induction h with
 | refl=>exact .refl
 | step _ hj ih=>exact (Cn.refl.step hj.symm).trans ih
def Bl (es:List (Nat×Nat)):Nat->Nat->Nat->Prop
 | 0,m,k=>m=k
 | i+1,m,k=>Bl es i m k\/∃ k',Bl es i m k'/\Aj es k' k
theorem Bl.up {i j:Nat} (hij:i<=j) (h:Bl es i m k):Bl es j m k:=by
 obtain ⟨d,rfl⟩:=Nat.exists_eq_add_of_le hij
 clear hij
 induction d with
 | zero=>exact h
 | succ d ih=>exact .inl ih
theorem Cn.bl (hc:Cn es m k) {i:Nat} (h:∀ k,Bl es (i+1) m k->Bl es i m k):Bl es i m k:=by
 induction hc with
 | refl=>exact Bl.up (Nat.zero_le _) (show Bl es 0 m m from rfl)
 | step _ hj ih=>exact h _ (.inr ⟨_,ih,hj⟩)
theorem Cn.all (he:∀ a b,Aj es a b->b<n) (hm:m<n) (hc:Cn es m k):Bl es n m k:=by
 classical
 let b:Nat->Nat:=fun i=>((List.range n).filter fun k=>decide (Bl es i m k)).length
 have lt:∀ {i k},Bl es i m k->k<n:=fun {i}=>by
  induction i with
  | zero=>intro k h;cases h;exact hm
  | succ i ih=>
   intro k h
   rcases h with h | ⟨k',_,h2⟩
   ·exact ih h
   ·exact he _ _ h2
 have stop:∀ i,b (i+1)<=b i->∀ k,Bl es (i+1) m k->Bl es i m k:=fun i hb k h=>by
  have:=fil_eq (p:=fun k=>decide (Bl es i m k)) (q:=fun k=>decide (Bl es (i+1) m k)) (fun a ha=>decide_eq_true (.inl (of_decide_eq_true ha))) hb k (List.mem_range.2 (lt h)) (decide_eq_true h)
  exact of_decide_eq_true this
 have grow:∀ i,(∃ j,j<=i/\b (j+1)<=b j)\/i+2<=b (i+1):=fun i=>by
  induction i with
  | zero=>
   by_cases c:b (0+1)<=b 0
   ·exact .inl ⟨0,Nat.le_refl _,c⟩
   ·refine .inr ?_
    have:1<=b 0:=by
     show 1<=((List.range n).filter fun k=>decide (Bl es 0 m k)).length
     exact List.length_pos_of_mem (a:=m) (List.mem_filter.2 ⟨List.mem_range.2 hm,decide_eq_true (show Bl es 0 m m from rfl)⟩)
    omega
  | succ i ih=>
   rcases ih with ⟨j,hj,hb⟩ | ih
   ·exact .inl ⟨j,by omega,hb⟩
   ·by_cases c:b (i+1+1)<=b (i+1)
    ·exact .inl ⟨i+1,Nat.le_refl _,c⟩
    ·exact .inr (by omega)
 have top:∀ i,b i<=n:=fun i=>by
  have:=List.length_filter_le (fun k=>decide (Bl es i m k)) (List.range n)
  simpa [b] using this
 rcases grow (n - 1) with ⟨j,hj,hb⟩ | h
 ·exact Bl.up (by omega) (hc.bl (stop j hb))
 ·have:=top (n - 1+1)
  omega
structure LabJ (es:List (Nat×Nat)) (n i j:Nat) (lab:Nat->Nat):Prop where
 lt:∀ k,k<n->lab k<n
 cn:∀ k,k<n->Cn es (lab k) k
 le:∀ m k,k<n->Bl es i m k->lab k<=m
 ed:∀ e,e<j->e<es.length->∀ m,(Bl es i m (es.getD e (0,0)).1->lab (es.getD e (0,0)).2<=m)/\(Bl es i m (es.getD e (0,0)).2->lab (es.getD e (0,0)).1<=m)
theorem LabJ.init:LabJ es n 0 0 (fun k=>k):=⟨fun _ h=>h,fun _ _=>.refl,fun m k _ h=>by cases h;exact Nat.le_refl _,fun e he=>absurd he (Nat.not_lt_zero _)⟩
theorem LabJ.round {i:Nat} {lab:Nat->Nat} (h:LabJ es n i es.length lab):LabJ es n (i+1) 0 lab:=by
 refine ⟨h.lt,h.cn,fun m k hk hb=>?_,fun e he=>absurd he (Nat.not_lt_zero _)⟩
 rcases hb with hb | ⟨k',h1,h2⟩
 ·exact h.le m k hk hb
 ·rcases h2 with h2 | h2
  ·obtain ⟨e,he,hx⟩:=List.mem_iff_getElem.1 h2
   have:=(h.ed e he he m).1
   rw [List.getD_eq_getElem?_getD,List.getElem?_eq_getElem he,Option.getD_some,hx] at this
   exact this h1
  ·obtain ⟨e,he,hx⟩:=List.mem_iff_getElem.1 h2
   have:=(h.ed e he he m).2
   rw [List.getD_eq_getElem?_getD,List.getElem?_eq_getElem he,Option.getD_some,hx] at this
   exact this h1
theorem LabJ.step {i j a b:Nat} {lab lab':Nat->Nat} (hlt:∀ e,e<es.length->(es.getD e (0,0)).1<n/\(es.getD e (0,0)).2<n) (h:LabJ es n i j lab) (hj:j<es.length) (hab:es.getD j (0,0)=(a,b)) (ha:a<n) (hb:b<n) (hl:∀ k,k<n->lab' k=if k=a\/k=b then min (lab a) (lab b) else lab k):LabJ es n i (j+1) lab':=by
 have hmem:(a,b) ∈ es:=by
  rw [List.getD_eq_getElem?_getD,List.getElem?_eq_getElem hj,Option.getD_some] at hab
  rw [<- hab];exact List.getElem_mem hj
 have hc:Cn es a b:=Cn.refl.step (.inl hmem)
 have le':∀ k,k<n->lab' k<=lab k:=fun k hk=>by
  rw [hl k hk]
  split
  ·rename_i e
   rcases e with rfl | rfl
   ·exact Nat.min_le_left ..
   ·exact Nat.min_le_right ..
  ·exact Nat.le_refl _
 refine ⟨fun k hk=>Nat.lt_of_le_of_lt (le' k hk) (h.lt k hk),fun k hk=>?_,fun m k hk hB=>Nat.le_trans (le' k hk) (h.le m k hk hB),fun e he hel m=>?_⟩
 ·rw [hl k hk]
  split
  ·rename_i e
   have c1:Cn es (min (lab a) (lab b)) a:=by
    rcases Nat.le_total (lab a) (lab b) with g | g
    ·rw [Nat.min_eq_left g];exact h.cn a ha
    ·rw [Nat.min_eq_right g];exact (h.cn b hb).trans hc.symm
   rcases e with rfl | rfl
   ·exact c1
   ·exact c1.trans hc
  ·exact h.cn k hk
 ·by_cases e1:e=j
  ·subst e1
   rw [hab]
   constructor
   ·intro g
    show lab' b<=m
    rw [hl b hb,if_pos (.inr rfl)]
    exact Nat.le_trans (Nat.min_le_left ..) (h.le m a ha g)
   ·intro g
    show lab' a<=m
    rw [hl a ha,if_pos (.inl rfl)]
    exact Nat.le_trans (Nat.min_le_right ..) (h.le m b hb g)
  ·have:=h.ed e (by omega) hel m
   have low:∀ k,lab k<=m->k<n->lab' k<=m:=fun k g hk=>Nat.le_trans (le' k hk) g
   have e2:=hlt e hel
   exact ⟨fun g=>low _ (this.1 g) e2.2,fun g=>low _ (this.2 g) e2.1⟩
def Lab (es:List (Nat×Nat)) (n:Nat) (lab:Nat->Nat):Prop:=∀ k,k<n->lab k<n/\Cn es (lab k) k/\∀ m,m<n->Cn es m k->lab k<=m
theorem LabJ.lab {lab:Nat->Nat} (he:∀ a b,Aj es a b->b<n) (h:LabJ es n n 0 lab):Lab es n lab:=fun k hk=>⟨h.lt k hk,h.cn k hk,fun m hm hc=>h.le m k hk (hc.all he hm)⟩
theorem Lab.same {lab:Nat->Nat} (h:Lab es n lab) {a b:Nat} (ha:a<n) (hb:b<n) (hc:Cn es a b):lab a=lab b:=by
 obtain ⟨a1,a2,a3⟩:=h a ha
 obtain ⟨b1,b2,b3⟩:=h b hb
 exact Nat.le_antisymm (a3 _ b1 (b2.trans hc.symm)) (b3 _ a1 (a2.trans hc))
theorem Lab.idem {lab:Nat->Nat} (h:Lab es n lab) {k:Nat} (hk:k<n):lab (lab k)=lab k:=h.same (h k hk).1 hk (h k hk).2.1
end
end Go.Proofs.Ytgbmmbfminafnaa.E
