/- Joined. -/
import Derived.Test.YtgbmmbfminafnaaKM16
set_option linter.unusedVariables false
set_option linter.unusedSimpArgs false
namespace Go.Proofs.Ytgbmmbfminafnaa.E
open Go Go.RowKit
instance (r:api_Rat):Decidable (valid r):=by unfold valid;infer_instance
theorem natAbs_tmod_gcd (u v:Int):Nat.gcd v.natAbs (u.tmod v).natAbs=Nat.gcd u.natAbs v.natAbs:=by
 rw [Int.natAbs_tmod,Nat.gcd_comm v.natAbs,<- Nat.gcd_rec,Nat.gcd_comm]
theorem num_Valid_run {r:api_Rat} {Q:Bool->Prop} (H:Q (decide (valid r))):(num_Valid.f r).run Q:=by
 have no: ¬ valid r->Q false:=fun h=>by rwa [decide_eq_false h] at H
 unfold num_Valid.f
 refine W.run_if (fun c=>no fun h=>by have:=h.1;omega) (fun c1=>W.run_if (fun c=>no fun h=>by have:=h.2.1;omega) (fun c2=>W.run_if (fun c=>no fun h=>by have:=h.2.2.2.1;omega) (fun c3=>W.run_if (fun c=>no fun h=>by have:=h.2.2.1;omega) (fun c4=>?_))))
 refine W.loop_c (fun s:Int×Int=>Nat.gcd s.1.natAbs s.2.natAbs=Nat.gcd r.N.natAbs r.D.natAbs) (fun s=>s.2.natAbs) rfl ?_
 rintro ⟨u,v⟩ P hg hgo hbrk hout
 simp only at hg hgo |-
 unfold num_Valid.l1
 refine W.run_if (fun c=>W.req_i c (hgo _ ?_ ?_)) (fun c=>hbrk _ ?_)
 ·simp only
  rw [natAbs_tmod_gcd,hg]
 ·simp only
  rw [Int.natAbs_tmod]
  exact Nat.mod_lt _ (by omega)
 ·have hv:v=0:=by omega
  subst hv
  simp at hg
  have e:valid r ↔ u.natAbs=1:=by unfold valid;rw [hg];constructor <;> intro h <;> omega
  unfold num_Valid.j1
  simp only
  refine W.run_if (fun c=>?_) (fun c=>?_)
  ·rwa [show decide (valid r)=true from by simp [e];omega] at H
  ·rwa [show decide (valid r)=decide (u= -1) from by rw [decide_eq_decide,e];omega] at H
section
variable {α:Type} [Inhabited α]
def gd (l:List α) (k:Nat):α:=l.getD k default
theorem gi_gd (l:List α) (k:Nat):gi l (k:Int)=gd l k:=by rw [gi,gd,Int.toNat_natCast]
theorem gi_gdi {l:List α} {i:Int} {k:Nat} (h:i=k):gi l i=gd l k:=by rw [h,gi_gd]
theorem gd_lt {l:List α} {k:Nat} (h:k<l.length):gd l k=l[k]:=by simp [gd,List.getD_eq_getElem?_getD,h]
theorem gd_set (l:List α) (i:Nat) (x:α) (k:Nat):gd (l.set i x) k=if i=k/\k<l.length then x else gd l k:=by
 simp only [gd,List.getD_eq_getElem?_getD,List.getElem?_set]
 by_cases h:i=k
 ·subst h
  by_cases h2:i<l.length
  ·simp [h2]
  ·simp [h2]
 ·simp [h]
theorem gd_app (l m:List α) (k:Nat):gd (l ++ m) k=if k<l.length then gd l k else gd m (k - l.length):=by
 simp only [gd,List.getD_eq_getElem?_getD,List.getElem?_append]
 split <;> rfl
theorem gd_mem {l:List α} {k:Nat} (h:k<l.length):gd l k ∈ l:=by rw [gd_lt h];exact List.getElem_mem h
end
theorem all_valid_iff (l:List api_Rat):(∀ r ∈ l,valid r) ↔ ∀ k,k<l.length->valid (gd l k):=by
 constructor
 ·intro h k hk;exact h _ (gd_mem hk)
 ·intro h r hr
  obtain ⟨k,hk,rfl⟩:=List.mem_iff_getElem.1 hr
  have:=h k hk
  rwa [gd_lt hk] at this
instance (l:List api_Rat):Decidable (∀ r ∈ l,valid r):=inferInstance
theorem num_AllValid_run {l:List api_Rat} {Q:Bool->Prop} (hl:l.length<=281474976710656) (H:Q (decide (∀ r ∈ l,valid r))):(num_AllValid.f l).run Q:=by
 unfold num_AllValid.f
 refine W.loop_c (fun p=>∃ i:Nat,p=i/\i<=l.length/\∀ k,k<i->valid (gd l k)) (fun p=>l.length - p.toNat) ⟨0,rfl,Nat.zero_le _,fun k hk=>by omega⟩ ?_
 rintro _ P ⟨i,rfl,hi,hv⟩ hgo hbrk hout
 unfold num_AllValid.l1
 rw [gi_gd]
 refine W.run_if (fun c=>W.req_i (by omega) (W.bd (num_Valid_run (W.run_if (fun c2=>hgo _ ⟨i+1,by simp,by omega,fun k hk=>?_⟩ (by omega)) (fun c2=>hout _ ?_))))) (fun c=>hbrk _ ?_)
 ·by_cases e:k=i
  ·subst e;exact of_decide_eq_true c2
  ·exact hv k (by omega)
 ·rwa [decide_eq_false (fun h=>c2 (decide_eq_true (h _ (gd_mem (by omega)))))] at H
 ·rwa [decide_eq_true ((all_valid_iff l).2 fun k hk=>hv k (by omega))] at H
def QL (l:List num_Q) (n:Nat) (f:Nat->Rat):Prop:=l.length=n/\∀ i,i<n->QRep (gd l i) (f i)
def QM (l:List (List num_Q)) (r c:Nat) (f:Nat->Nat->Rat):Prop:=l.length=r/\∀ i,i<r->QL (gd l i) c (f i)
theorem QL.congr {l:List num_Q} {n:Nat} {f g:Nat->Rat} (h:QL l n f) (he:∀ i,i<n->f i=g i):QL l n g:=⟨h.1,fun i hi=>he i hi ▸ h.2 i hi⟩
theorem QM.congr {l:List (List num_Q)} {r c:Nat} {f g:Nat->Nat->Rat} (h:QM l r c f) (he:∀ i j,i<r->j<c->f i j=g i j):QM l r c g:=⟨h.1,fun i hi=>(h.2 i hi).congr fun j hj=>he i j hi hj⟩
theorem QL.set {l:List num_Q} {n:Nat} {f:Nat->Rat} (h:QL l n f) {i:Nat} {q:num_Q} {y:Rat} (hq:QRep q y):QL (l.set i q) n (fun j=>if j=i then y else f j):=by
 refine ⟨by rw [List.length_set];exact h.1,fun j hj=>?_⟩
 rw [gd_set]
 dsimp only
 by_cases e:i=j
 ·subst e;rw [if_pos ⟨rfl,by rw [h.1];exact hj⟩];simpa using hq
 ·rw [if_neg (by omega),if_neg (by omega)];exact h.2 j hj
theorem QM.set {l:List (List num_Q)} {r c:Nat} {f:Nat->Nat->Rat} (h:QM l r c f) {i:Nat} {x:List num_Q} {g:Nat->Rat} (hx:QL x c g):QM (l.set i x) r c (fun k=>if k=i then g else f k):=by
 refine ⟨by rw [List.length_set];exact h.1,fun j hj=>?_⟩
 rw [gd_set]
 dsimp only
 by_cases e:i=j
 ·subst e;rw [if_pos ⟨rfl,by rw [h.1];exact hj⟩];simpa using hx
 ·rw [if_neg (by omega),if_neg (by omega)];exact h.2 j hj
def sm:Nat->(Nat->Rat)->Rat
 | 0,_=>0
 | n+1,f=>sm n f+f n
theorem sm_congr {n:Nat} {f g:Nat->Rat} (h:∀ i,i<n->f i=g i):sm n f=sm n g:=by
 induction n with
 | zero=>rfl
 | succ n ih=>rw [sm,sm,ih fun i hi=>h i (by omega),h n (by omega)]
theorem sm_add (n:Nat) (f g:Nat->Rat):sm n (fun i=>f i+g i)=sm n f+sm n g:=by
 induction n with
 | zero=>simp [sm,Rat.add_zero]
 | succ n ih=>rw [sm,sm,sm,ih];grind
theorem sm_mul (n:Nat) (c:Rat) (f:Nat->Rat):sm n (fun i=>c*f i)=c*sm n f:=by
 induction n with
 | zero=>simp [sm]
 | succ n ih=>rw [sm,sm,ih];grind
theorem sm_zero {n:Nat} {f:Nat->Rat} (h:∀ i,i<n->f i=0):sm n f=0:=by
 induction n with
 | zero=>rfl
 | succ n ih=>rw [sm,ih fun i hi=>h i (by omega),h n (by omega),Rat.add_zero]
theorem sm_one {n k:Nat} {f:Nat->Rat} (hk:k<n) (h:∀ i,i<n->i≠k->f i=0):sm n f=f k:=by
 induction n with
 | zero=>omega
 | succ n ih=>
  rw [sm]
  by_cases e:k=n
  ·subst e
   rw [sm_zero fun i hi=>h i (by omega) (by omega),Rat.zero_add]
  ·rw [ih (by omega) fun i hi hne=>h i (by omega) hne,h n (by omega) (by omega),Rat.add_zero]
theorem sm_two {n k m:Nat} {f:Nat->Rat} (hk:k<n) (hm:m<n) (hkm:k≠m) (h:∀ i,i<n->i≠k->i≠m->f i=0):sm n f=f k+f m:=by
 have e:sm n f=sm n (fun i=>(if i=k then f i else 0)+(if i=k then 0 else f i)):=sm_congr fun i _=>by
  by_cases e:i=k
  ·rw [if_pos e,if_pos e,Rat.add_zero]
  ·rw [if_neg e,if_neg e,Rat.zero_add]
 rw [e,sm_add,sm_one hk (fun i _ hi=>by rw [if_neg hi]),sm_one hm (fun i hi hi2=>?_),if_pos rfl,if_neg (Ne.symm hkm)]
 by_cases e:i=k
 ·rw [if_pos e]
 ·rw [if_neg e,h i hi e hi2]
end Go.Proofs.Ytgbmmbfminafnaa.E
namespace Go.Proofs.Ytgbmmbfminafnaa.E
open Go Go.RowKit
def nd (l:List Int) (k:Nat):Nat:=(gn l k).toNat
def swapM (M:Nat->Nat->Rat) (m p:Nat):Nat->Nat->Rat:=fun i j=>if i=m then M p j else if i=p then M m j else M i j
def divM (M:Nat->Nat->Rat) (m k:Nat):Nat->Nat->Rat:=fun i j=>if i=m then M m j / M m k else M i j
def elimM (M:Nat->Nat->Rat) (m k:Nat):Nat->Nat->Rat:=fun i j=>if i=m then M m j else M i j - M i k*M m j
def dz (c:Nat) (f z:Nat->Rat):Rat:=sm c (fun j=>f j*z j)
theorem dz_swap {r c m p:Nat} {M:Nat->Nat->Rat} {z:Nat->Rat} (hm:m<r) (hp:p<r):(∀ i,i<r->dz c (swapM M m p i) z=0) ↔ (∀ i,i<r->dz c (M i) z=0):=by
 have e:∀ i,swapM M m p i=if i=m then M p else if i=p then M m else M i:=by
  intro i;unfold swapM;split
  ·rfl
  ·split <;> rfl
 constructor
 ·intro h i hi
  by_cases e1:i=p
  ·have:=h m hm
   rw [e,if_pos rfl] at this
   rw [e1];exact this
  ·by_cases e2:i=m
   ·have:=h p hp
    rw [e] at this
    by_cases e3:p=m
    ·rw [if_pos e3] at this;rw [e2,<- e3];exact this
    ·rw [if_neg e3,if_pos rfl] at this;rw [e2];exact this
   ·have:=h i hi
    rw [e,if_neg e2,if_neg e1] at this
    exact this
 ·intro h i hi
  rw [e]
  split
  ·exact h p hp
  ·split
   ·exact h m hm
   ·exact h i hi
theorem dz_scale (c:Nat) (f z:Nat->Rat) (q:Rat):dz c (fun j=>f j / q) z=q⁻¹*dz c f z:=by
 unfold dz
 rw [<- sm_mul]
 exact sm_congr fun j _=>by dsimp only;rw [Rat.div_def];grind
theorem dz_sub (c:Nat) (f g z:Nat->Rat) (q:Rat):dz c (fun j=>f j - q*g j) z=dz c f z - q*dz c g z:=by
 unfold dz
 have h1:sm c (fun j=>(f j - q*g j)*z j)=sm c (fun j=>f j*z j+(-q)*(g j*z j)):=sm_congr fun j _=>by grind
 rw [h1,sm_add,sm_mul]
 grind
theorem rat_mul_zero {a b:Rat} (ha:a≠0) (h:a*b=0):b=0:=by
 rcases Rat.mul_eq_zero.1 h with h | h
 ·exact absurd h ha
 ·exact h
theorem rat_inv_ne {a:Rat} (ha:a≠0):a⁻¹≠0:=fun h=>by
 have:=Rat.mul_inv_cancel a ha
 rw [h,Rat.mul_zero] at this
 exact absurd this (by decide)
theorem dz_div {r c m k:Nat} {M:Nat->Nat->Rat} {z:Nat->Rat} (hk:M m k≠0):(∀ i,i<r->dz c (divM M m k i) z=0) ↔ (∀ i,i<r->dz c (M i) z=0):=by
 have e:∀ i,dz c (divM M m k i) z=if i=m then (M m k)⁻¹*dz c (M m) z else dz c (M i) z:=by
  intro i
  by_cases h:i=m
  ·rw [if_pos h,<- dz_scale];unfold divM;simp only [if_pos h]
  ·rw [if_neg h];unfold divM;simp only [if_neg h]
 constructor
 ·intro h i hi
  have:=h i hi
  rw [e] at this
  split at this
  ·rename_i e1;rw [e1];exact rat_mul_zero (rat_inv_ne hk) this
  ·exact this
 ·intro h i hi
  rw [e]
  split
  ·rename_i e1;rw [<- e1,h i hi,Rat.mul_zero]
  ·exact h i hi
theorem dz_elim {r c m k:Nat} {M:Nat->Nat->Rat} {z:Nat->Rat} (hm:m<r):(∀ i,i<r->dz c (elimM M m k i) z=0) ↔ (∀ i,i<r->dz c (M i) z=0):=by
 have e:∀ i,dz c (elimM M m k i) z=if i=m then dz c (M m) z else dz c (M i) z - M i k*dz c (M m) z:=by
  intro i
  by_cases h:i=m
  ·rw [if_pos h];unfold elimM;simp only [if_pos h]
  ·rw [if_neg h,<- dz_sub];unfold elimM;simp only [if_neg h]
 constructor
 ·intro h i hi
  have hm0:=h m hm
  rw [e,if_pos rfl] at hm0
  have:=h i hi
  rw [e] at this
  split at this
  ·rename_i e1;rw [e1];exact this
  ·rw [hm0,Rat.mul_zero] at this
   grind
 ·intro h i hi
  rw [e]
  split
  ·exact h m hm
  ·rw [h i hi,h m hm];grind
structure Red (r c:Nat) (M0 M:Nat->Nat->Rat) (k:Nat) (piv:List Int):Prop where
 ker:∀ z,(∀ i,i<r->dz c (M0 i) z=0) ↔ (∀ i,i<r->dz c (M i) z=0)
 le:piv.length<=r
 lt:∀ a,a<piv.length->0<=gn piv a/\nd piv a<k
 one:∀ a,a<piv.length->M a (nd piv a)=1
 zero:∀ a,a<piv.length->∀ i,i<r->i≠a->M i (nd piv a)=0
 low:∀ i,piv.length<=i->i<r->∀ j,j<k->M i j=0
 left:∀ a,a<piv.length->∀ j,j<nd piv a->M a j=0
 full:piv.length=k/\(∀ a,a<piv.length->nd piv a=a)\/∃ f,f<k/\∀ a,a<piv.length->nd piv a≠f
 inc:∀ a b,b<piv.length->a<b->nd piv a<nd piv b
theorem Red.init {r c:Nat} {M0 M:Nat->Nat->Rat} (h:∀ i j,i<r->j<c->M i j=M0 i j):Red r c M0 M 0 []:=by
 refine ⟨fun z=>?_,Nat.zero_le _,fun a h=>by simp at h,fun a h=>by simp at h,fun a h=>by simp at h,fun i _ _ j hj=>by omega,fun a h=>by simp at h,.inl ⟨rfl,fun a h=>by simp at h⟩,fun a b h=>by simp at h⟩
 have e:∀ i,i<r->dz c (M i) z=dz c (M0 i) z:=fun i hi=>sm_congr fun j hj=>by rw [h i j hi hj]
 exact ⟨fun h i hi=>(e i hi).trans (h i hi),fun h i hi=>(e i hi).symm.trans (h i hi)⟩
theorem Red.skip {r c k:Nat} {M0 M:Nat->Nat->Rat} {piv:List Int} (h:Red r c M0 M k piv) (hz:∀ i,piv.length<=i->i<r->M i k=0):Red r c M0 M (k+1) piv:=by
 refine ⟨h.ker,h.le,fun a ha=>by have:=h.lt a ha;omega,h.one,h.zero,fun i h1 h2 j hj=>?_,h.left,.inr ⟨k,by omega,fun a ha=>by have:=h.lt a ha;omega⟩,h.inc⟩
 by_cases e:j=k
 ·rw [e];exact hz i h1 h2
 ·exact h.low i h1 h2 j (by omega)
theorem nd_app {piv:List Int} {k a:Nat} :nd (piv ++ [(k:Int)]) a=if a<piv.length then nd piv a else if a=piv.length then k else 0:=by
 unfold nd
 rw [gn_app]
 split
 ·rfl
 ·split
  ·rename_i h;rw [h,Nat.sub_self];rfl
  ·rw [gn_ge (by simp;omega)];rfl
theorem Red.step {r c k p:Nat} {M0 M:Nat->Nat->Rat} {piv:List Int} (h:Red r c M0 M k piv) (hk:k<c) (h1:piv.length<=p) (h2:p<r) (hn:M p k≠0) :
  Red r c M0 (elimM (divM (swapM M piv.length p) piv.length k) piv.length k) (k+1) (piv ++ [(k:Int)]):=by
 generalize hm:piv.length=m at *
 have hlt:=h.lt
 have hone:=h.one
 have hzero:=h.zero
 have hlow:=h.low
 have hleft:=h.left
 have hfull:=h.full
 have hinc:=h.inc
 rw [hm] at hlt hone hzero hlow hleft hfull hinc
 have hS:swapM M m p m=M p:=by funext j;simp [swapM]
 have hSk:swapM M m p m k≠0:=by rw [hS];exact hn
 have N:∀ j,divM (swapM M m p) m k m j=M p j / M p k:=fun j=>by simp [divM,swapM]
 have N':∀ i j,i≠m->divM (swapM M m p) m k i j=if i=p then M m j else M i j:=fun i j hi=>by simp [divM,swapM,hi]
 have hmr:m<r:=by omega
 have El:∀ j,elimM (divM (swapM M m p) m k) m k m j=M p j / M p k:=fun j=>by unfold elimM;rw [if_pos rfl,N]
 have El':∀ i j,i≠m->elimM (divM (swapM M m p) m k) m k i j=(if i=p then M m j else M i j) - (if i=p then M m k else M i k)*(M p j / M p k):=fun i j hi=>by unfold elimM;rw [if_neg hi,N,N' i j hi,N' i k hi]
 have hdiv:M p k / M p k=1:=by rw [Rat.div_def];exact Rat.mul_inv_cancel _ hn
 have zdiv:(0:Rat) / M p k=0:=by rw [Rat.div_def,Rat.zero_mul]
 have hlen:(piv ++ [(k:Int)]).length=m+1:=by simp [hm]
 have hnd:∀ a,a<m->nd (piv ++ [(k:Int)]) a=nd piv a:=fun a ha=>by rw [nd_app,if_pos (by omega)]
 have hndm:nd (piv ++ [(k:Int)]) m=k:=by rw [nd_app,if_neg (by omega),if_pos hm.symm]
 refine ⟨fun z=>?_,by omega,fun a ha=>?_,fun a ha=>?_,fun a ha i hi hne=>?_,fun i h3 h4 j hj=>?_,fun a ha j hj=>?_,?_,fun a b hb hab=>?_⟩
 ·rw [h.ker z,<- dz_swap (m:=m) (p:=p) hmr h2,<- dz_div hSk,dz_elim hmr]
 ·rw [hlen] at ha
  by_cases e:a=m
  ·subst e
   refine ⟨?_,by rw [hndm];omega⟩
   rw [gn_app,if_neg (by omega),hm,Nat.sub_self]
   show (0:Int)<=(k:Int)
   omega
  ·refine ⟨?_,by rw [hnd a (by omega)];have:=(hlt a (by omega)).2;omega⟩
   rw [gn_app,if_pos (by omega)];exact (hlt a (by omega)).1
 ·rw [hlen] at ha
  by_cases e:a=m
  ·subst e;rw [hndm,El];exact hdiv
  ·rw [hnd a (by omega),El' a _ e,if_neg (by omega),hzero a (by omega) p h2 (by omega),hone a (by omega),zdiv,Rat.mul_zero];grind
 ·rw [hlen] at ha
  by_cases e:a=m
  ·subst e;rw [hndm,El' i _ hne,hdiv,Rat.mul_one,Rat.sub_self]
  ·rw [hnd a (by omega)]
   by_cases e2:i=m
   ·subst e2;rw [El,hzero a (by omega) p h2 (by omega)];exact zdiv
   ·rw [El' i _ e2,hzero a (by omega) p h2 (by omega),zdiv,Rat.mul_zero]
    by_cases e3:i=p
    ·rw [if_pos e3,hzero a (by omega) m hmr (by omega)];grind
    ·rw [if_neg e3,hzero a (by omega) i hi hne];grind
 ·rw [hlen] at h3
  by_cases e:j=k
  ·subst e;rw [El' i _ (by omega),hdiv,Rat.mul_one,Rat.sub_self]
  ·rw [El' i _ (by omega),hlow p h1 h2 j (by omega),zdiv,Rat.mul_zero]
   by_cases e3:i=p
   ·rw [if_pos e3,hlow m (Nat.le_refl _) hmr j (by omega)];grind
   ·rw [if_neg e3,hlow i (by omega) h4 j (by omega)];grind
 ·rw [hlen] at ha
  by_cases e:a=m
  ·subst e;rw [hndm] at hj;rw [El,hlow p h1 h2 j hj];exact zdiv
  ·rw [hnd a (by omega)] at hj
   have:=(hlt a (by omega)).2
   rw [El' a _ e,if_neg (by omega),hleft a (by omega) j hj,hlow p h1 h2 j (by omega),zdiv,Rat.mul_zero];grind
 ·rcases hfull with ⟨e1,e2⟩ | ⟨f,e1,e2⟩
  ·refine .inl ⟨by omega,fun a ha=>?_⟩
   rw [hlen] at ha
   by_cases e:a=m
   ·subst e;rw [hndm];omega
   ·rw [hnd a (by omega)];exact e2 a (by omega)
  ·refine .inr ⟨f,by omega,fun a ha=>?_⟩
   rw [hlen] at ha
   by_cases e:a=m
   ·subst e;rw [hndm];omega
   ·rw [hnd a (by omega)];exact e2 a (by omega)
 ·rw [hlen] at hb
  by_cases e:b=m
  ·subst e;rw [hndm,hnd a hab];exact (hlt a hab).2
  ·rw [hnd b (by omega),hnd a (by omega)];exact hinc a b (by omega) hab
def augM (n:Nat) (m:Nat->Nat->Rat) (v:Nat->Rat):Nat->Nat->Rat:=fun i j=>if j=n then v i else m i j
theorem dz_aug (n:Nat) (m:Nat->Nat->Rat) (v:Nat->Rat) (i:Nat) (z:Nat->Rat):dz (n+1) (augM n m v i) z=dz n (m i) z+v i*z n:=by
 unfold dz augM
 rw [sm,if_pos rfl]
 congr 1
 exact sm_congr fun j hj=>by rw [if_neg (by omega)]
theorem Red.solved {n:Nat} {m:Nat->Nat->Rat} {v:Nat->Rat} {M:Nat->Nat->Rat} {piv:List Int} (h:Red n (n+1) (augM n m v) M n piv) (hl:piv.length=n) (x:Nat->Rat):(∀ i,i<n->dz n (m i) x=v i) ↔ (∀ i,i<n->x i=M i n):=by
 have hp:∀ a,a<n->nd piv a=a:=by
  rcases h.full with ⟨_,e⟩ | ⟨f,e1,e2⟩
  ·rw [hl] at e;exact e
  ·-- as many pivots as columns:none is free
   exfalso
   have hge:∀ a,a<piv.length->a<=nd piv a:=by
    intro a
    induction a with
    | zero=>intro _;omega
    | succ a ih=>intro ha;have:=h.inc a (a+1) ha (by omega);have:=ih (by omega);omega
   have heq:∀ d a,a+d+1=n->nd piv a<=a:=by
    intro d
    induction d with
    | zero=>intro a ha;have:=(h.lt a (by omega)).2;omega
    | succ d ih=>intro a ha;have:=ih (a+1) (by omega);have:=h.inc a (a+1) (by omega) (by omega);omega
   have h1:=heq (n - f - 1) f (by omega)
   have h2:=hge f (by omega)
   exact e2 f (by omega) (by omega)
 have key:=h.ker (fun j=>if j=n then -1 else x j)
 have e1:∀ i,dz (n+1) (augM n m v i) (fun j=>if j=n then -1 else x j)=dz n (m i) x - v i:=by
  intro i
  rw [dz_aug]
  simp only [if_pos]
  have:dz n (m i) (fun j=>if j=n then -1 else x j)=dz n (m i) x:=sm_congr fun j hj=>by dsimp only;rw [if_neg (by omega)]
  rw [this];grind
 have e2:∀ i,i<n->dz (n+1) (M i) (fun j=>if j=n then -1 else x j)=x i - M i n:=by
  intro i hi
  have hone:=h.one i (by omega)
  rw [hp i hi] at hone
  unfold dz
  rw [sm]
  dsimp only
  rw [if_pos rfl,sm_one hi (fun j hj hne=>?_),if_neg (by omega),hone]
  ·grind
  ·have:=h.zero j (by omega) i hi (by omega)
   rw [hp j hj] at this
   rw [this,Rat.zero_mul]
 constructor
 ·intro hs i hi
  have:=(key.1 fun i hi=>by rw [e1,hs i hi,Rat.sub_self]) i hi
  rw [e2 i hi] at this
  grind
 ·intro hs i hi
  have:=(key.2 fun i hi=>by rw [e2 i hi,hs i hi,Rat.sub_self]) i hi
  rw [e1] at this
  grind
theorem Red.free {n:Nat} {m:Nat->Nat->Rat} {v:Nat->Rat} {M:Nat->Nat->Rat} {piv:List Int} (h:Red n (n+1) (augM n m v) M n piv) (hl:piv.length<n):∃ z:Nat->Rat,(∃ f,f<n/\z f≠0)/\∀ i,i<n->dz n (m i) z=0:=by
 obtain ⟨f,hf,hfree⟩:∃ f,f<n/\∀ a,a<piv.length->nd piv a≠f:=by
  rcases h.full with ⟨e,_⟩ | e
  ·omega
  ·exact e
 let z:Nat->Rat:=fun j=>if j=f then 1 else if ∃ a,a<piv.length/\nd piv a=j then - M (Classical.epsilon fun a=>a<piv.length/\nd piv a=j) f else 0
 have hzf:z f=1:=by simp [z]
 have hinj:∀ a b,a<piv.length->b<piv.length->nd piv a=nd piv b->a=b:=by
  intro a b ha hb e
  rcases Nat.lt_trichotomy a b with c | c | c
  ·have:=h.inc a b hb c;omega
  ·exact c
  ·have:=h.inc b a ha c;omega
 have hzp:∀ a,a<piv.length->z (nd piv a)= - M a f:=by
  intro a ha
  have hex:∃ b,b<piv.length/\nd piv b=nd piv a:=⟨a,ha,rfl⟩
  have hch:=Classical.epsilon_spec hex
  simp only [z]
  rw [if_neg (hfree a ha),if_pos hex,hinj _ a hch.1 ha hch.2]
 have hz0:∀ j,j≠f->(∀ a,a<piv.length->nd piv a≠j)->z j=0:=by
  intro j h1 h2
  simp only [z]
  rw [if_neg h1,if_neg (fun ⟨a,h3,h4⟩=>h2 a h3 h4)]
 refine ⟨fun j=>if j=n then 0 else z j,⟨f,hf,by simp only;rw [if_neg (by omega),hzf];decide⟩,fun i hi=>?_⟩
 have hM:∀ i,i<n->dz (n+1) (M i) (fun j=>if j=n then 0 else z j)=0:=by
  intro i hi
  unfold dz
  rw [sm]
  dsimp only
  rw [if_pos rfl,Rat.mul_zero,Rat.add_zero]
  by_cases hip:i<piv.length
  ·have hlt:=(h.lt i hip).2
   rw [sm_two (k:=nd piv i) (m:=f) hlt hf (hfree i hip) (fun j hj h1 h2=>?_)]
   ·skip
    rw [if_neg (by omega),if_neg (by omega),hzp i hip,hzf,h.one i hip]
    grind
   ·rw [if_neg (by omega)]
    by_cases hj2:∃ a,a<piv.length/\nd piv a=j
    ·obtain ⟨a,ha,rfl⟩:=hj2
     rw [h.zero a ha i hi (fun e=>h1 (by rw [e])),Rat.zero_mul]
    ·rw [hz0 j h2 (fun a ha e=>hj2 ⟨a,ha,e⟩),Rat.mul_zero]
  ·exact sm_zero fun j hj=>by rw [h.low i (by omega) hi j hj,Rat.zero_mul]
 have:=(h.ker _).2 hM i hi
 rw [dz_aug,if_pos rfl,Rat.mul_zero,Rat.add_zero] at this
 exact this
def szR (s:Nat):Nat->Nat
 | 0=>s
 | k+1=>4*szR s k+1
theorem szR_mono (s:Nat) {k n:Nat} (h:k<=n):szR s k<=szR s n:=by
 induction n with
 | zero=>rw [Nat.le_zero.1 h];exact Nat.le_refl _
 | succ n ih=>
  by_cases e:k=n+1
  ·rw [e];exact Nat.le_refl _
  ·have:=ih (by omega);rw [szR];omega
end Go.Proofs.Ytgbmmbfminafnaa.E
namespace Go.Proofs.Ytgbmmbfminafnaa.E
open Go Go.RowKit
section
variable {r c:Nat} {M:Nat->Nat->Rat} {Q:List Int×List (List num_Q)->Prop}
theorem divM_sz {r c s m k:Nat} {N:Nat->Nat->Rat} (hm:m<r) (hk:k<c) (hN:∀ i j,i<r->j<c->Sz s (N i j)) (h0:N m k≠0):∀ i j,i<r->j<c->Sz (s+s) (divM N m k i j):=by
 intro i j hi hj
 unfold divM
 split
 ·exact (hN m j hm hj).div (hN m k hm hk) h0
 ·exact (hN i j hi hj).mono (by omega)
theorem step_sz {r c s m p k:Nat} {M:Nat->Nat->Rat} (hm:m<r) (hp:p<r) (hk:k<c) (hM:∀ i j,i<r->j<c->Sz s (M i j)) (h0:M p k≠0):∀ i j,i<r->j<c->Sz (4*s+1) (elimM (divM (swapM M m p) m k) m k i j):=by
 have hS:∀ i j,i<r->j<c->Sz s (swapM M m p i j):=by
  intro i j hi hj
  unfold swapM
  split
  ·exact hM p j hp hj
  ·split
   ·exact hM m j hm hj
   ·exact hM i j hi hj
 have hSk:swapM M m p m k≠0:=by unfold swapM;rw [if_pos rfl];exact h0
 have hD:=divM_sz hm hk hS hSk
 intro i j hi hj
 unfold elimM
 split
 ·exact (hD m j hm hj).mono (by omega)
 ·rename_i e
  have e1:∀ j,divM (swapM M m p) m k i j=swapM M m p i j:=fun j=>by unfold divM;rw [if_neg e]
  rw [e1,e1]
  exact ((hS i j hi hj).sub ((hS i k hi hk).mul (hD m j hm hj))).mono (by omega)
structure Grows (r c n t:Nat) (Z:Nat->(Nat->Nat->Rat)->Prop):Prop where
 sz:∀ {k N},k<=n->Z k N->∀ i j,i<r->j<c->Sz t (N i j)
 skip:∀ {k N},k<n->Z k N->Z (k+1) N
 step:∀ {k m p N},k<n->m<r->p<r->k<c->Z k N->N p k≠0->Z (k+1) (elimM (divM (swapM N m p) m k) m k)
theorem Grows.all {r c n t:Nat} {Z:Nat->(Nat->Nat->Rat)->Prop} (h:Grows r c n t Z) {k:Nat} {N:Nat->Nat->Rat} (hk:k<=n) (hz:Z k N):Z n N:=by
 obtain ⟨d,rfl⟩:=Nat.exists_eq_add_of_le hk
 have:∀ e,e<=d->Z (k+e) N:=fun e=>by
  induction e with
  | zero=>intro _;exact hz
  | succ e ih=>intro he;exact (show Z (k+e+1) N from h.skip (k:=k+e) (by omega) (ih (by omega)))
 exact this d (Nat.le_refl _)
theorem Grows.szR {r c n s:Nat} :Grows r c n (szR s n) (fun k N=>∀ i j,i<r->j<c->Sz (szR s k) (N i j)) where
 sz hk h i j hi hj:=(h i j hi hj).mono (szR_mono s hk)
 skip _ h i j hi hj:=(h i j hi hj).mono (szR_mono s (Nat.le_succ _))
 step _ hm hp hk h h0:=step_sz hm hp hk h h0
end
end Go.Proofs.Ytgbmmbfminafnaa.E
namespace Go.Proofs.Ytgbmmbfminafnaa.E
open Go Go.RowKit
end Go.Proofs.Ytgbmmbfminafnaa.E
namespace Go.Proofs.Ytgbmmbfminafnaa.E
open Go Go.RowKit
theorem Sz.one:Sz 1 1:=⟨by decide,by decide⟩
section
variable {x y:List api_Rat} {Q:api_Rat×api_Rat×Int->Prop}
end
end Go.Proofs.Ytgbmmbfminafnaa.E
namespace Go.Proofs.Ytgbmmbfminafnaa.E
open Go Go.RowKit
end Go.Proofs.Ytgbmmbfminafnaa.E
namespace Go.Proofs.Ytgbmmbfminafnaa.E
open Go Go.RowKit
def matOk (m:api_Mat):Prop:=(0<=m.R/\m.R<=12)/\(0<=m.C/\m.C<=12)/\(m.V.length:Int)=m.R*m.C/\∀ r ∈ m.V,valid r
theorem mul_in {a b:Int} (ha:0<=a/\a<=13) (hb:0<=b/\b<=13):0<=a*b/\a*b<=169:=by
 have:=Int.mul_le_mul ha.2 hb.2 hb.1 (show (0:Int)<=13 by decide)
 exact ⟨Int.mul_nonneg ha.1 hb.1,by omega⟩
theorem mat_Validate_run {m:api_Mat} {Q:Int->Prop} (hl:m.V.length<=281474976710656) (h0:matOk m->Q 0) (h1: ¬ matOk m->Q 1):(mat_Validate.f m).run Q:=by
 unfold mat_Validate.f
 refine W.run_if (fun c=>h1 fun h=>by have:=h.1;omega) (fun c1=>W.run_if (fun c=>h1 fun h=>by have:=h.1;omega) (fun c2=>W.run_if (fun c=>h1 fun h=>by have:=h.2.1;omega) (fun c3=>W.run_if (fun c=>h1 fun h=>by have:=h.2.1;omega) (fun c4=>?_))))
 have hp:=mul_in (a:=m.R) (b:=m.C) (by omega) (by omega)
 exact W.req_i (by show _/\_;omega) (W.run_if (fun c=>h1 fun h=>c h.2.2.1) (fun c5=>W.bd (num_AllValid_run hl (W.run_if (fun c=>h0 ⟨by omega,by omega,by omega,of_decide_eq_true c⟩) (fun c=>h1 fun h=>c (decide_eq_true h.2.2.2))))))
theorem at_lt {i r k c:Nat} (hi:i<r) (hk:k<c):i*c+k<r*c:=by
 have:=Nat.mul_le_mul_right c (show i+1<=r from hi)
 rw [Nat.add_mul] at this
 omega
def mxv (v:List api_Rat) (c j i:Nat):Rat:=ratOf (gd v (j*c+i))
theorem matOk.at {m:api_Mat} {r c:Nat} (h:matOk m) (hR:m.R=r) (hC:m.C=c):m.V.length=r*c/\∀ j i,j<r->i<c->valid (gd m.V (j*c+i)):=by
 have hl:m.V.length=r*c:=by
  have:=h.2.2.1
  rw [hR,hC,<- Int.natCast_mul] at this
  exact Int.ofNat.inj this
 refine ⟨hl,fun j i hj hi=>(all_valid_iff _).1 h.2.2.2 _ ?_⟩
 rw [hl]
 exact at_lt hj hi
end Go.Proofs.Ytgbmmbfminafnaa.E
namespace Go.Proofs.Ytgbmmbfminafnaa.E
open Go Go.RowKit
theorem dz_ext {n:Nat} {f x y:Nat->Rat} (h:∀ i,i<n->x i=y i):dz n f x=dz n f y:=sm_congr fun i hi=>by rw [h i hi]
end Go.Proofs.Ytgbmmbfminafnaa.E
namespace Go.Proofs.Ytgbmmbfminafnaa.E
open Go Go.RowKit
end Go.Proofs.Ytgbmmbfminafnaa.E
namespace Go.Proofs.Ytgbmmbfminafnaa.E
open Go Go.RowKit
section
variable {r c:Nat} {M:Nat->Nat->Rat} {Q:List (List ref01_Q)×List Int->Prop}
end
end Go.Proofs.Ytgbmmbfminafnaa.E
namespace Go.Proofs.Ytgbmmbfminafnaa.E
open Go Go.RowKit
def pix (piv:List Int) (q:Nat):Nat->Option Nat
 | 0=>none
 | n+1=>if nd piv n=q then some n else pix piv q n
theorem pix_some {piv:List Int} {q a:Nat} :∀ {n},pix piv q n=some a->a<n/\nd piv a=q
 | n+1,h=>by
  unfold pix at h
  split at h
  ·rename_i e
   obtain rfl:=Option.some.inj h
   exact ⟨Nat.lt_succ_self _,e⟩
  ·have:=pix_some h
   exact ⟨by omega,this.2⟩
theorem pix_none {piv:List Int} {q:Nat} :∀ {n},pix piv q n=none->∀ a,a<n->nd piv a≠q
 | 0,_,a,ha=>by omega
 | n+1,h,a,ha=>by
  unfold pix at h
  split at h
  ·cases h
  ·rename_i e
   by_cases e2:a=n
   ·rw [e2];exact e
   ·exact pix_none h a (by omega)
def freeL (piv:List Int):Nat->List Nat
 | 0=>[]
 | n+1=>if pix piv n piv.length=none then freeL piv n ++ [n] else freeL piv n
theorem freeL_mem {piv:List Int} {j:Nat} :∀ {n},j ∈ freeL piv n ↔ j<n/\pix piv j piv.length=none
 | 0=>by simp [freeL]
 | n+1=>by
  unfold freeL
  split
  ·rename_i h
   rw [List.mem_append,freeL_mem,List.mem_singleton]
   constructor
   ·rintro (⟨h1,h2⟩ | rfl)
    ·exact ⟨by omega,h2⟩
    ·exact ⟨Nat.lt_succ_self _,h⟩
   ·rintro ⟨h1,h2⟩
    by_cases e:j=n
    ·exact .inr e
    ·exact .inl ⟨by omega,h2⟩
  ·rename_i h
   rw [freeL_mem]
   constructor
   ·rintro ⟨h1,h2⟩;exact ⟨by omega,h2⟩
   ·rintro ⟨h1,h2⟩
    refine ⟨?_,h2⟩
    rcases Nat.lt_or_ge j n with h3 | h3
    ·exact h3
    ·obtain rfl:j=n:=by omega
     exact absurd h2 h
def kvp (M:Nat->Nat->Rat) (piv:List Int) (j n q:Nat):Rat:=if q=j then 1 else match pix piv q n with
 | some a=>- M a j
 | none=>0
def kv (M:Nat->Nat->Rat) (piv:List Int) (j:Nat):Nat->Rat:=kvp M piv j piv.length
section
variable {r c:Nat} {M:Nat->Nat->Rat} {piv:List Int}
end
end Go.Proofs.Ytgbmmbfminafnaa.E
namespace Go.Proofs.Ytgbmmbfminafnaa.E
open Go Go.RowKit
section
variable {d e:Int} {s t:Nat} {x y:Rat}
end
end Go.Proofs.Ytgbmmbfminafnaa.E
namespace Go.Proofs.Ytgbmmbfminafnaa.E
open Go Go.RowKit
theorem sm_exch (r c:Nat) (F:Nat->Nat->Rat):sm r (fun j=>sm c (fun k=>F j k))=sm c (fun k=>sm r (fun j=>F j k)):=by
 induction r with
 | zero=>exact (sm_zero fun _ _=>rfl).symm
 | succ r ih=>
  show sm r (fun j=>sm c (fun k=>F j k))+sm c (fun k=>F r k)=sm c (fun k=>sm r (fun j=>F j k)+F r k)
  rw [ih,sm_add]
theorem sm_sub (n:Nat) (f g:Nat->Rat):sm n (fun i=>f i - g i)=sm n f - sm n g:=by
 induction n with
 | zero=>simp [sm,Rat.sub_self]
 | succ n ih=>rw [sm,sm,sm,ih];grind
theorem dz_minus (n:Nat) (f x y:Nat->Rat):dz n f (fun i=>x i - y i)=dz n f x - dz n f y:=by
 unfold dz
 rw [<- sm_sub]
 exact sm_congr fun i _=>by grind
end Go.Proofs.Ytgbmmbfminafnaa.E
namespace Go.Proofs.Ytgbmmbfminafnaa.E
open Go Go.RowKit
section
variable {r c:Nat} {A:Nat->Nat->Rat} {V:Nat->Rat} {M:Nat->Nat->Rat} {piv:List Int}
theorem Red.pix_at (h:Red r (c+1) (augM c A V) M c piv) {a:Nat} (ha:a<piv.length):pix piv (nd piv a) piv.length=some a:=by
 cases hp:pix piv (nd piv a) piv.length with
 | none=>exact absurd rfl (pix_none hp a ha)
 | some b=>
  obtain ⟨h1,h2⟩:=pix_some hp
  rcases Nat.lt_trichotomy a b with e | e | e
  ·have:=h.inc a b h1 e;omega
  ·rw [e]
  ·have:=h.inc b a ha e;omega
theorem Red.row (h:Red r (c+1) (augM c A V) M c piv) {a:Nat} (ha:a<piv.length) (z:Nat->Rat):dz c (M a) z=z (nd piv a)+sm c (fun k=>if pix piv k piv.length=none then M a k*z k else 0):=by
 have hl:=(h.lt a ha).2
 have har:a<r:=Nat.lt_of_lt_of_le ha h.le
 unfold dz
 rw [sm_congr (g:=fun k=>(if k=nd piv a then z k else 0)+(if pix piv k piv.length=none then M a k*z k else 0)) fun k hk=>?_,sm_add,sm_one hl fun i _ hi=>if_neg hi,if_pos rfl]
 by_cases e:k=nd piv a
 ·rw [if_pos e,if_neg (by rw [e,h.pix_at ha];simp),e,h.one a ha];grind
 ·rw [if_neg e]
  cases hp:pix piv k piv.length with
  | none=>simp [Rat.zero_add]
  | some b=>
   obtain ⟨h1,h2⟩:=pix_some hp
   have hab:a≠b:=fun e2=>e (by rw [<- h2,e2])
   rw [if_neg (by simp),<- h2,h.zero b h1 a har hab];grind
theorem Red.low0 (h:Red r (c+1) (augM c A V) M c piv) {i:Nat} (h1:piv.length<=i) (h2:i<r) (z:Nat->Rat):dz (c+1) (M i) z=M i c*z c:=by
 show dz c (M i) z+M i c*z c=_
 rw [show dz c (M i) z=0 from sm_zero fun k hk=>by rw [h.low i h1 h2 k hk,Rat.zero_mul],Rat.zero_add]
theorem Red.hom (h:Red r (c+1) (augM c A V) M c piv) (y:Nat->Rat):(∀ i,i<r->dz c (A i) y=0) ↔ ∀ a,a<piv.length->y (nd piv a)+sm c (fun k=>if pix piv k piv.length=none then M a k*y k else 0)=0:=by
 have e1:=h.ker (fun k=>if k=c then 0 else y k)
 have e2:∀ N:Nat->Rat,dz c N (fun k=>if k=c then 0 else y k)=dz c N y:=fun N=>dz_ext fun k hk=>by rw [if_neg (by omega)]
 constructor
 ·intro hy a ha
  have:=e1.1 (fun i hi=>by rw [dz_aug,e2,hy i hi,if_pos rfl];grind) a (Nat.lt_of_lt_of_le ha h.le)
  change dz c (M a) _+M a c*_=0 at this
  rw [e2] at this
  dsimp only at this
  rw [if_pos rfl,h.row ha] at this
  grind
 ·intro hy i hi
  have:=e1.2 (fun j hj=>by
   by_cases e:j<piv.length
   ·show dz c (M j) _+M j c*_=0
    rw [e2]
    dsimp only
    rw [if_pos rfl,h.row e,hy j e];grind
   ·rw [h.low0 (by omega) hj,if_pos rfl,Rat.mul_zero]) i hi
  rw [dz_aug,e2,if_pos rfl] at this
  grind
theorem kv_self (j:Nat):kv M piv j j=1:=by unfold kv kvp;rw [if_pos rfl]
theorem kv_free {j q:Nat} (hq:pix piv q piv.length=none) (hne:q≠j):kv M piv j q=0:=by unfold kv kvp;rw [if_neg hne,hq]
theorem Red.kv_piv (h:Red r (c+1) (augM c A V) M c piv) {j a:Nat} (ha:a<piv.length) (hj:pix piv j piv.length=none):kv M piv j (nd piv a)= - M a j:=by
 unfold kv kvp
 have hne:nd piv a≠j:=fun e=>by
  rw [<- e,h.pix_at ha] at hj
  exact absurd hj (by simp)
 rw [if_neg hne,h.pix_at ha]
theorem Red.kv0 (h:Red r (c+1) (augM c A V) M c piv) {j:Nat} (hj:j<c) (hf:pix piv j piv.length=none):∀ i,i<r->dz c (A i) (kv M piv j)=0:=by
 refine (h.hom _).2 fun a ha=>?_
 rw [h.kv_piv ha hf,sm_one hj fun k hk hne=>?_,if_pos hf,kv_self]
 ·grind
 ·split
  ·rename_i e;rw [kv_free e hne,Rat.mul_zero]
  ·rfl
end
end Go.Proofs.Ytgbmmbfminafnaa.E
namespace Go.Proofs.Ytgbmmbfminafnaa.E
open Go Go.RowKit
section
variable {r c:Nat} {A:Nat->Nat->Rat} {V:Nat->Rat} {M M':Nat->Nat->Rat} {piv piv':List Int}
theorem Red.free_iff (h:Red r (c+1) (augM c A V) M c piv) {j:Nat} (hj:j<c):pix piv j piv.length=none ↔ ∃ y:Nat->Rat,(∀ i,i<r->dz c (A i) y=0)/\y j≠0/\∀ q,j<q->q<c->y q=0:=by
 constructor
 ·intro hf
  refine ⟨kv M piv j,h.kv0 hj hf,by rw [kv_self];decide,fun q h1 h2=>?_⟩
  cases hp:pix piv q piv.length with
  | none=>exact kv_free hp (by omega)
  | some a=>
   obtain ⟨g1,g2⟩:=pix_some hp
   rw [<- g2,h.kv_piv g1 hf,h.left a g1 j (by omega)];grind
 ·rintro ⟨y,h1,h2,h3⟩
  cases hp:pix piv j piv.length with
  | none=>rfl
  | some a=>
   exfalso
   obtain ⟨g1,g2⟩:=pix_some hp
   have:=(h.hom y).1 h1 a g1
   rw [g2,sm_zero fun k hk=>?_,Rat.add_zero] at this
   ·exact h2 this
   split
   ·rename_i e
    rcases Nat.lt_trichotomy k j with hkj | rfl | hkj
    ·rw [h.left a g1 k (by omega),Rat.zero_mul]
    ·rw [hp] at e;cases e
    ·rw [h3 k hkj hk,Rat.mul_zero]
   ·rfl
theorem Red.null (h:Red r (c+1) (augM c A V) M c piv) {y:Nat->Rat} (hy:∀ i,i<r->dz c (A i) y=0) (h0:∀ q,q<c->pix piv q piv.length=none->y q=0):∀ q,q<c->y q=0:=by
 intro q hq
 cases hp:pix piv q piv.length with
 | none=>exact h0 q hq hp
 | some a=>
  obtain ⟨g1,g2⟩:=pix_some hp
  have:=(h.hom y).1 hy a g1
  rw [g2,sm_zero fun k hk=>?_,Rat.add_zero] at this
  ·exact this
  split
  ·rename_i e;rw [h0 k hk e,Rat.mul_zero]
  ·rfl
end
end Go.Proofs.Ytgbmmbfminafnaa.E
