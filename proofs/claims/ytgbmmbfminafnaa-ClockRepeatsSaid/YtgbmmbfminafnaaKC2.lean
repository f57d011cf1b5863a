/- Joined. -/
import Derived.Test.YtgbmmbfminafnaaKM46
import Derived.Test.YtgbmmbfminafnaaKF0
set_option linter.unusedVariables false
set_option linter.unusedSimpArgs false
namespace Go.Proofs.Ytgbmmbfminafnaa.E
open Go Go.RowKit
theorem Cn.ind {es:List (Nat×Nat)} {m k:Nat} {P:Nat->Prop} (h:∀ a b,(a,b) ∈ es->(P a ↔ P b)) (hc:Cn es m k) (hm:P m):P k:=by
 induction hc with
 | refl=>exact hm
 | step _ hj ih=>
  rcases hj with hj | hj
  ·exact (h _ _ hj).1 ih
  ·exact (h _ _ hj).2 ih
section
variable {r r' c:Nat} {A M A' M':Nat->Nat->Rat} {piv piv':List Int}
theorem ker_same (h:Red r c A M c piv) (h':Red r' c A' M' c piv') (sub:∀ y:Nat->Rat,(∀ i,i<r'->dz c (A' i) y=0)->∀ i,i<r->dz c (A i) y=0) (hl:piv'.length<=piv.length) (y:Nat->Rat) (hy:∀ i,i<r->dz c (A i) y=0):∀ i,i<r'->dz c (A' i) y=0:=by
 have ha:=h.aug0
 have ha':=h'.aug0
 have imp:∀ j,j<c->pix piv' j piv'.length=none->pix piv j piv.length=none:=fun j hj hn=>by
  obtain ⟨z,z1,z2,z3⟩:=(ha'.free_iff hj).1 hn
  exact (ha.free_iff hj).2 ⟨z,sub z z1,z2,z3⟩
 have back:∀ j,j<c->pix piv j piv.length=none->pix piv' j piv'.length=none:=fun j hj hn=>by
  have e1:=h.count
  have e2:=h'.count
  rw [freeL_fil] at e1 e2
  have g1:∀ P:List Int,((List.range c).filter fun k=>(pix P k P.length).isNone).length=((List.range c).filter fun k=>decide (k<c) && (pix P k P.length).isNone).length:=fun P=>by
   rw [List.filter_congr (q:=fun k=>decide (k<c) && (pix P k P.length).isNone) fun k hk=>by rw [decide_eq_true (List.mem_range.1 hk),Bool.true_and]]
  have:=fil_eq (p:=fun k=>decide (k<c) && (pix piv' k piv'.length).isNone) (q:=fun k=>decide (k<c) && (pix piv k piv.length).isNone) (fun a ha=>by
   simp only [Bool.and_eq_true,decide_eq_true_eq,Option.isNone_iff_eq_none] at ha |-
   exact ⟨ha.1,imp a ha.1 ha.2⟩) (l:=List.range c) (by rw [<- g1,<- g1];omega) j (List.mem_range.2 hj) (by simp [hj,hn])
  simp only [Bool.and_eq_true,decide_eq_true_eq,Option.isNone_iff_eq_none] at this
  exact this.2
 have hmem:∀ j,j<(freeL piv' c).length->gd (freeL piv' c) j<c/\pix piv' (gd (freeL piv' c) j) piv'.length=none:=fun j hj=>freeL_mem.1 (gd_mem hj)
 let u:Nat->Rat:=fun q=>sm (freeL piv' c).length fun j=>y (gd (freeL piv' c) j)*kv (augM c M' fun _=>0) piv' (gd (freeL piv' c) j) q
 have hu:∀ i,i<r'->dz c (A' i) u=0:=fun i hi=>by
  show dz c (A' i) (fun q=>sm (freeL piv' c).length fun j=>y (gd (freeL piv' c) j)*kv (augM c M' fun _=>0) piv' (gd (freeL piv' c) j) q)=0
  rw [dz_lin]
  exact sm_zero fun j hj=>by rw [ha'.kv0 (hmem j hj).1 (hmem j hj).2 i hi,Rat.mul_zero]
 have hf:∀ q,q<c->pix piv q piv.length=none->u q=y q:=fun q hq hn=>by
  obtain ⟨j,hj,e⟩:∃ j,j<(freeL piv' c).length/\gd (freeL piv' c) j=q:=by
   obtain ⟨j,hj,e⟩:=List.mem_iff_getElem.1 (freeL_mem.2 ⟨hq,back q hq hn⟩)
   exact ⟨j,hj,by rw [gd_lt hj];exact e⟩
  show sm _ _=_
  rw [sm_one hj fun i hi hne=>by
   rw [kv_free (back q hq hn) (fun e'=>hne (frL_inj piv' c i j hi hj (by rw [e,e']))),Rat.mul_zero],e,kv_self,Rat.mul_one]
 have hd:∀ q,q<c->y q=u q:=fun q hq=>by
  have:=ha.null (y:=fun k=>y k - u k) (fun i hi=>by rw [dz_minus,hy i hi,sub u hu i hi];grind) (fun q hq hn=>by rw [hf q hq hn];grind) q hq
  grind
 intro i hi
 rw [<- hu i hi]
 exact sm_congr fun q hq=>by rw [hd q hq]
theorem Red.ones (h:Red r c A M c piv) {root:Nat->Nat} (inj:∀ v:Nat->Rat,(∀ i,i<r->dz c (A i) v=0)->(∀ g,g<(freeL piv c).length->v (root g)=0)->∀ q,q<c->v q=0) :
  ∃ v:Nat->Rat,(∀ i,i<r->dz c (A i) v=0)/\∀ g,g<(freeL piv c).length->v (root g)=1:=by
 have hx:∀ g0,∃ v:Nat->Rat,g0<(freeL piv c).length->(∀ i,i<r->dz c (A i) v=0)/\v (root g0)=1/\∀ g,g<(freeL piv c).length->g≠g0->v (root g)=0:=fun g0=>by
  by_cases e:g0<(freeL piv c).length
  ·obtain ⟨v,hv⟩:=h.roots inj e
   exact ⟨v,fun _=>hv⟩
  ·exact ⟨fun _=>0,fun k=>absurd k e⟩
 obtain ⟨V,hV⟩:=Classical.axiomOfChoice hx
 refine ⟨fun q=>sm (freeL piv c).length fun j=>1*V j q,fun i hi=>?_,fun g hg=>?_⟩
 ·rw [dz_lin]
  exact sm_zero fun j hj=>by rw [(hV j hj).1 i hi,Rat.mul_zero]
 ·show sm _ _=_
  rw [sm_one hg fun i hi hne=>by rw [(hV i hi).2.2 g hg (Ne.symm hne),Rat.mul_zero],(hV g hg).2.1,Rat.mul_one]
end
def fN (f:api_Flow):Nat×Nat:=(f.A.toNat,f.B.toNat)
structure okF (n:Nat) (f:api_Flow):Prop where
 a0:0<=f.A
 a1:f.A<n
 b0:0<=f.B
 b1:f.B<n
 p0:1<=f.Put
 p1:f.Put<=60
 t0:1<=f.Take
 t1:f.Take<=60
 s0:0<=f.Start
 s1:f.Start<=64
def Sat (l:List api_Flow) (v:Nat->Rat):Prop:=∀ f ∈ l,(f.Put:Rat)*v f.A.toNat=f.Take*v f.B.toNat
def Bal (n:Nat) (l:List api_Flow):Prop:=∃ v:Nat->Rat,(∀ k,k<n->0<v k)/\Sat l v
def frow (f:api_Flow) (k:Nat):Rat:=(if k=f.A.toNat then (f.Put:Rat) else 0) - (if k=f.B.toNat then (f.Take:Rat) else 0)
section
variable {n:Nat} {l:List api_Flow} {f:api_Flow} {v:Nat->Rat}
theorem okF.an (h:okF n f):f.A.toNat<n:=by have:=h.a0;have:=h.a1;omega
theorem okF.bn (h:okF n f):f.B.toNat<n:=by have:=h.b0;have:=h.b1;omega
theorem okF.put (h:okF n f):(0:Rat)<f.Put:=by have:=h.p0;exact_mod_cast (by omega:(0:Int)<f.Put)
theorem okF.take (h:okF n f):(0:Rat)<f.Take:=by have:=h.t0;exact_mod_cast (by omega:(0:Int)<f.Take)
theorem dz_frow (h:okF n f):dz n (frow f) v=f.Put*v f.A.toNat - f.Take*v f.B.toNat:=by
 unfold dz frow
 rw [sm_congr (g:=fun k=>(if k=f.A.toNat then (f.Put:Rat) else 0)*v k - (if k=f.B.toNat then (f.Take:Rat) else 0)*v k) fun k _=>by grind,sm_sub,sm_one h.an fun i _ hne=>by rw [if_neg hne,Rat.zero_mul],sm_one h.bn fun i _ hne=>by rw [if_neg hne,Rat.zero_mul],if_pos rfl,if_pos rfl]
theorem es_mem {a b:Nat} (h:(a,b) ∈ l.map fN):∃ f ∈ l,f.A.toNat=a/\f.B.toNat=b:=by
 obtain ⟨f,h1,h2⟩:=List.mem_map.1 h
 unfold fN at h2
 injection h2 with h2 h3
 exact ⟨f,h1,h2,h3⟩
theorem es_lt (ok:∀ f ∈ l,okF n f):∀ a b,Aj (l.map fN) a b->b<n:=fun a b h=>by
 rcases h with h | h <;> obtain ⟨f,h1,rfl,rfl⟩:=es_mem h
 ·exact (ok f h1).bn
 ·exact (ok f h1).an
theorem Sat.zero (ok:∀ f ∈ l,okF n f) (h:Sat l v):∀ a b,(a,b) ∈ l.map fN->(v a=0 ↔ v b=0):=fun a b hm=>by
 obtain ⟨f,h1,rfl,rfl⟩:=es_mem hm
 have e:=h f h1
 have p:=(ok f h1).put
 have t:=(ok f h1).take
 constructor
 ·intro z
  rw [z,Rat.mul_zero] at e
  exact rat_mul_zero (by grind) e.symm
 ·intro z
  rw [z,Rat.mul_zero] at e
  exact rat_mul_zero (by grind) e
theorem pos_of_mul {p x:Rat} (hp:0<p) (h:0<p*x):0<x:=by
 rcases Rat.le_total (a:=x) (b:=0) with c | c
 ·have:=Rat.mul_nonneg (Rat.le_of_lt hp) (show (0:Rat)<=-x by grind)
  grind
 ·rcases Rat.le_iff_lt_or_eq.1 c with c | c
  ·exact c
  ·rw [<- c,Rat.mul_zero] at h;exact absurd h (by grind)
theorem Sat.pos (ok:∀ f ∈ l,okF n f) (h:Sat l v):∀ a b,(a,b) ∈ l.map fN->(0<v a ↔ 0<v b):=fun a b hm=>by
 obtain ⟨f,h1,rfl,rfl⟩:=es_mem hm
 have e:=h f h1
 have p:=(ok f h1).put
 have t:=(ok f h1).take
 exact ⟨fun z=>pos_of_mul t (by rw [<- e];exact Rat.mul_pos p z),fun z=>pos_of_mul p (by rw [e];exact Rat.mul_pos t z)⟩
theorem bal_of {lab:Nat->Nat} {r:Nat} {A M:Nat->Nat->Rat} {piv:List Int} {rs:List Nat} (ok:∀ f ∈ l,okF n f) (hlab:Lab (l.map fN) n lab) (h:Red r n A M n piv) (hk:∀ y:Nat->Rat,(∀ i,i<r->dz n (A i) y=0) ↔ Sat l y) (hrs:∀ k,k ∈ rs ↔ k<n/\lab k=k) (hc:rs.length=(freeL piv n).length):Bal n l:=by
 have rt:∀ q,q<n->∃ g,g<(freeL piv n).length/\gd rs g=lab q:=fun q hq=>by
  obtain ⟨g,hg,e⟩:=List.mem_iff_getElem.1 ((hrs (lab q)).2 ⟨(hlab q hq).1,hlab.idem hq⟩)
  exact ⟨g,by omega,by rw [gd_lt hg];exact e⟩
 obtain ⟨v,v1,v2⟩:=h.ones (root:=gd rs) fun v hv h0 q hq=>by
  obtain ⟨g,hg,e⟩:=rt q hq
  exact Cn.ind (P:=fun k=>v k=0) (((hk v).1 hv).zero ok) (hlab q hq).2.1 (e ▸ h0 g hg)
 have hs:=(hk v).1 v1
 refine ⟨v,fun q hq=>?_,hs⟩
 obtain ⟨g,hg,e⟩:=rt q hq
 exact Cn.ind (P:=fun k=>0<v k) (hs.pos ok) (hlab q hq).2.1 (by rw [<- e,v2 g hg];decide)
end
end Go.Proofs.Ytgbmmbfminafnaa.E
namespace Go.Proofs.Ytgbmmbfminafnaa.E
open Go Go.RowKit
structure Good (n:Int) (l:List api_Flow):Prop where
 len:l.length<=64
 n0:1<=n
 n1:n<=10
 ok:∀ f ∈ l,okF n.toNat f
def FlowsR (n:Int) (l:List api_Flow) (e:Int):Prop:=(e=0/\Good n l)\/(e=3/\64<l.length)\/(e=1/\l.length<=64/\¬ Good n l)
theorem clock_flows_run {n:Int} {l:List api_Flow} {Q:Int->Prop} (H:∀ e,FlowsR n l e->Q e):(clock_flows.f n l).run Q:=by
 unfold clock_flows.f
 refine W.run_if (fun c=>H _ (.inr (.inl ⟨rfl,by omega⟩))) fun c=>W.run_if (fun c1=>H _ (.inr (.inr ⟨rfl,by omega,fun g=>by have:=g.n0;omega⟩))) fun c1=>W.run_if (fun c2=>H _ (.inr (.inr ⟨rfl,by omega,fun g=>by have:=g.n1;omega⟩))) fun c2=>?_
 refine W.loop_c (fun p=>∃ i:Nat,p=i/\i<=l.length/\∀ k,k<i->okF n.toNat (gd l k)) (fun p=>l.length - p.toNat) ⟨0,rfl,Nat.zero_le _,fun k hk=>by omega⟩ ?_
 rintro _ P ⟨i,rfl,hi,hv⟩ hgo hbrk hout
 unfold clock_flows.l1
 simp only [gi_gd]
 have bad:i<l.length->¬ okF n.toNat (gd l i)->P (.out 1):=fun h1 h2=>hout _ (H _ (.inr (.inr ⟨rfl,by omega,fun g=>h2 (g.ok _ (gd_mem h1))⟩)))
 refine W.run_if (fun c3=>W.req_i (by omega) ?_) (fun c3=>hbrk _ ?_)
 ·refine W.run_if (fun d=>bad (by omega) fun o=>by have:=o.a0;omega) fun a0=>?_
  refine W.run_if (fun d=>bad (by omega) fun o=>by have:=o.a1;omega) fun a1=>?_
  refine W.run_if (fun d=>bad (by omega) fun o=>by have:=o.b0;omega) fun b0=>?_
  refine W.run_if (fun d=>bad (by omega) fun o=>by have:=o.b1;omega) fun b1=>?_
  refine W.run_if (fun d=>bad (by omega) fun o=>by have:=o.p0;omega) fun p0=>?_
  refine W.run_if (fun d=>bad (by omega) fun o=>by have:=o.p1;omega) fun p1=>?_
  refine W.run_if (fun d=>bad (by omega) fun o=>by have:=o.t0;omega) fun t0=>?_
  refine W.run_if (fun d=>bad (by omega) fun o=>by have:=o.t1;omega) fun t1=>?_
  refine W.run_if (fun d=>bad (by omega) fun o=>by have:=o.s0;omega) fun s0=>?_
  refine W.run_if (fun d=>bad (by omega) fun o=>by have:=o.s1;omega) fun s1=>?_
  refine hgo _ ⟨i+1,by simp,by omega,fun k hk=>?_⟩ (by simp;omega)
  by_cases e:k=i
  ·subst e;exact ⟨by omega,by omega,by omega,by omega,by omega,by omega,by omega,by omega,by omega,by omega⟩
  ·exact hv k (by omega)
 ·refine H _ (.inl ⟨rfl,by omega,by omega,by omega,fun f hf=>?_⟩)
  obtain ⟨k,hk,rfl⟩:=List.mem_iff_getElem.1 hf
  have:=hv k (by omega)
  rwa [gd_lt hk] at this
def memN (n:Nat) (lab:Nat->Nat) (r:Nat):List Nat:=(List.range n).filter fun k=>lab k == r
def rootN (n:Nat) (lab:Nat->Nat):List Nat:=(List.range n).filter fun k=>lab k == k
def toZ (k:Nat):Int:=k
def setsL (n:Nat) (lab:Nat->Nat):List (List Int):=(rootN n lab).map fun r=>(memN n lab r).map toZ
theorem fil_succ (p:Nat->Bool) (n:Nat):(List.range (n+1)).filter p=if p n=true then (List.range n).filter p ++ [n] else (List.range n).filter p:=by
 rw [List.range_succ,List.filter_append]
 split
 ·rename_i h;simp [h]
 ·rename_i h;simp [h]
def LabL (p:List Int) (n:Nat) (lab:Nat->Nat):Prop:=p.length=n/\∀ k,k<n->gd p k=lab k
section
variable {n:Nat} {l:List api_Flow} {Q:List (List Int)->Prop}
theorem es_at {j:Nat} (hj:j<l.length):(l.map fN).getD j (0,0)=((gd l j).A.toNat,(gd l j).B.toNat):=by
 rw [List.getD_eq_getElem?_getD,List.getElem?_map,List.getElem?_eq_getElem hj,gd_lt hj]
 rfl
theorem joined_sets {p:List Int} {lab:Nat->Nat} (hn:n<=10) (hp:LabL p n lab) (H:Q (setsL n lab)):(clock_joined.j2 (n:Int) p).run Q:=by
 unfold clock_joined.j2
 refine W.loop_c (fun s:List (List Int)×Int=>∃ i:Nat,s.2=i/\i<=n/\s.1=(rootN i lab).map fun r=>(memN n lab r).map toZ) (fun s=>n - s.2.toNat) ⟨0,rfl,Nat.zero_le _,rfl⟩ ?_
 rintro ⟨o,_⟩ P ⟨i,rfl,hi,ho⟩ hgo hbrk hout
 simp only at ho hgo |-
 subst ho
 have hl:=hp.1
 unfold clock_joined.l1 clock_joined.j4
 simp only [gi_gd]
 refine W.run_if (fun c=>W.req_i (by omega) (W.run_if (fun c1=>?_) fun c1=>?_)) (fun c=>hbrk _ ?_)
 ·rw [hp.2 i (by omega)] at c1
  refine hgo _ ⟨i+1,by simp,by omega,?_⟩ (by simp;omega)
  rw [rootN,rootN,fil_succ,if_neg (by simp;omega)]
 ·rw [hp.2 i (by omega)] at c1
  refine W.loop_c (fun s:List Int×Int=>∃ j:Nat,s.2=j/\j<=n/\s.1=(memN j lab i).map toZ) (fun s=>n - s.2.toNat) ⟨0,rfl,Nat.zero_le _,rfl⟩ ?_
  rintro ⟨q,_⟩ P2 ⟨j,rfl,hj,hq⟩ hgo2 hbrk2 hout2
  simp only at hq hgo2 |-
  subst hq
  unfold clock_joined.l2
  simp only [gi_gd]
  have hle:(memN j lab i).length<=j:=by
   have:=List.length_filter_le (fun k=>lab k == i) (List.range j)
   simpa [memN] using this
  refine W.run_if (fun c2=>W.req_i (by omega) (W.run_if (fun c3=>?_) fun c3=>?_)) (fun c2=>hbrk2 _ ?_)
  ·rw [hp.2 j (by omega)] at c3
   refine W.req_i (by rw [List.length_map];omega) (hgo2 _ ⟨j+1,by simp,by omega,?_⟩ (by simp;omega))
   rw [memN,memN,fil_succ,if_pos (by simp;omega),List.map_append]
   rfl
  ·rw [hp.2 j (by omega)] at c3
   refine hgo2 _ ⟨j+1,by simp,by omega,?_⟩ (by simp;omega)
   rw [memN,memN,fil_succ,if_neg (by simp;omega)]
  ·obtain rfl:j=n:=by omega
   unfold clock_joined.j5 clock_joined.j4
   have hle2:(rootN i lab).length<=i:=by
    have:=List.length_filter_le (fun k=>lab k == k) (List.range i)
    simpa [rootN] using this
   refine W.req_i (by rw [List.length_map];omega) (hgo _ ⟨i+1,by simp,by omega,?_⟩ (by simp;omega))
   show _ ++ _=_
   rw [show rootN (i+1) lab=rootN i lab ++ [i] by rw [rootN,rootN,fil_succ,if_pos (by simp;omega)],List.map_append]
   rfl
 ·obtain rfl:i=n:=by omega
  unfold clock_joined.j3
  exact H
theorem clock_joined_run (hn:n<=10) (hl:l.length<=64) (ok:∀ f ∈ l,okF n f) (H:∀ lab,Lab (l.map fN) n lab->Q (setsL n lab)):(clock_joined.f (n:Int) l).run Q:=by
 unfold clock_joined.f
 simp only [Int.toNat_natCast,List.length_replicate]
 refine W.req_i (by omega) ?_
 refine W.loop_c (fun s:List Int×Int=>∃ i:Nat,s.2=i/\i<=n/\s.1.length=n/\∀ k,k<i->gd s.1 k=(k:Int)) (fun s=>n - s.2.toNat) ⟨0,rfl,Nat.zero_le _,by simp,fun k hk=>by omega⟩ ?_
 rintro ⟨p,_⟩ P ⟨i,rfl,hi,hp,hv⟩ hgo hbrk hout
 simp only at hp hv hgo |-
 unfold clock_joined.l5
 simp only [List.length_replicate,Int.toNat_natCast]
 refine W.run_if (fun c=>W.req_i (by omega) (hgo _ ⟨i+1,by simp,by omega,by simp [hp],fun k hk=>?_⟩ (by simp;omega))) (fun c=>hbrk _ ?_)
 ·simp only
  rw [gd_set]
  by_cases e:i=k
  ·rw [if_pos ⟨e,by omega⟩,e]
  ·rw [if_neg (by omega)];exact hv k (by omega)
 obtain rfl:i=n:=by omega
 have len:(l.map fN).length=l.length:=List.length_map ..
 unfold clock_joined.j1
 refine W.loop_c (fun s:List Int×Int=>∃ (q:Nat) (lab:Nat->Nat),s.2=q/\q<=i/\LabL s.1 i lab/\LabJ (l.map fN) i q 0 lab) (fun s=>i - s.2.toNat) ⟨0,fun k=>k,rfl,Nat.zero_le _,⟨hp,hv⟩,LabJ.init⟩ ?_
 rintro ⟨p1,_⟩ P1 ⟨q,lab,rfl,hq,hp1,hL⟩ hgo1 hbrk1 hout1
 simp only at hp1 hgo1 |-
 unfold clock_joined.l3
 refine W.run_if (fun c1=>?_) (fun c1=>hbrk1 _ ?_)
 ·refine W.loop_c (fun s:List Int×Int=>∃ (j:Nat) (lab:Nat->Nat),s.2=j/\j<=l.length/\LabL s.1 i lab/\LabJ (l.map fN) i q j lab) (fun s=>l.length - s.2.toNat) ⟨0,lab,rfl,Nat.zero_le _,hp1,hL⟩ ?_
  rintro ⟨p2,_⟩ P2 ⟨j,lab2,rfl,hj,hp2,hL2⟩ hgo2 hbrk2 hout2
  simp only at hp2 hgo2 |-
  unfold clock_joined.l4
  simp only [gi_gd]
  refine W.run_if (fun c2=>?_) (fun c2=>hbrk2 _ ?_)
  ·have hf:=ok _ (gd_mem (show j<l.length by omega))
   have e1:(gd l j).A=((gd l j).A.toNat:Int):=by have:=hf.a0;omega
   have e2:(gd l j).B=((gd l j).B.toNat:Int):=by have:=hf.b0;omega
   have a1:=hf.an
   have b1:=hf.bn
   have g1:=hp2.1
   have hs:=hL2.step (a:=(gd l j).A.toNat) (b:=(gd l j).B.toNat) (lab':=fun k=>if k=(gd l j).A.toNat\/k=(gd l j).B.toNat then min (lab2 (gd l j).A.toNat) (lab2 (gd l j).B.toNat) else lab2 k) (fun e he=>by rw [len] at he;rw [es_at he];exact ⟨(ok _ (gd_mem he)).an,(ok _ (gd_mem he)).bn⟩) (by omega) (es_at (by omega)) a1 b1 (fun k hk=>rfl)
   have hm:mn (gd p2 (gd l j).A.toNat) (gd p2 (gd l j).B.toNat)=((min (lab2 (gd l j).A.toNat) (lab2 (gd l j).B.toNat):Nat):Int):=by
    rw [hp2.2 _ a1,hp2.2 _ b1];unfold mn;split <;> omega
   rw [gi_gdi e1,gi_gdi e2,hm]
   refine W.req_i (by omega) (W.req_i (by omega) (W.req_i (by omega) (W.req_i (by omega) (W.req_i (by rw [List.length_set];omega) (hgo2 _ ⟨j+1,_,by simp,by omega,⟨by simp [g1],fun k hk=>?_⟩,hs⟩ (by simp;omega))))))
   show gd ((p2.set _ _).set _ _) k=_
   rw [gd_set,gd_set,List.length_set]
   by_cases eb:k=(gd l j).B.toNat
   ·rw [if_pos ⟨eb.symm,by omega⟩,if_pos (.inr eb)]
   ·rw [if_neg (by omega)]
    by_cases ea:k=(gd l j).A.toNat
    ·rw [if_pos ⟨ea.symm,by omega⟩,if_pos (.inl ea)]
    ·rw [if_neg (by omega),if_neg (by omega)];exact hp2.2 k hk
  ·obtain rfl:j=l.length:=by omega
   unfold clock_joined.j6
   exact hgo1 _ ⟨q+1,lab2,by simp,by omega,hp2,(len ▸ hL2:LabJ (l.map fN) i q (l.map fN).length lab2).round⟩ (by simp;omega)
 ·obtain rfl:q=i:=by omega
  exact joined_sets hn hp1 (H _ (hL.lab (es_lt ok)))
end
end Go.Proofs.Ytgbmmbfminafnaa.E
