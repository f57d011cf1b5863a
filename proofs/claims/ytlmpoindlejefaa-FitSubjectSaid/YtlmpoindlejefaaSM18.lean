/- Rows brought to the reduced form: plain facts. -/
import Derived.Test.YtlmpoindlejefaaSM17
set_option linter.unusedVariables false
set_option linter.unusedSimpArgs false
namespace Go.Proofs.Ytlmpoindlejefaa.E
open Go Go.RowKit
def nd (l:List Int) (k:Nat):Nat:=(gn l k).toNat
def swapM (M:Nat->Nat->Rat) (m p:Nat):Nat->Nat->Rat:=fun i j=>if i=m then M p j else if i=p then M m j else M i j
def divM (M:Nat->Nat->Rat) (m k:Nat):Nat->Nat->Rat:=fun i j=>if i=m then M m j / M m k else M i j
def elimM (M:Nat->Nat->Rat) (m k:Nat):Nat->Nat->Rat:=fun i j=>if i=m then M m j else M i j - M i k*M m j
def dz (c:Nat) (f z:Nat->Rat):Rat:=sm c (fun j=>f j*z j)
theorem dz_swap {r c m p:Nat} {M:Nat->Nat->Rat} {z:Nat->Rat} (hm:m<r) (hp:p<r):(∀ i,i<r->dz c (swapM M m p i) z=0) ↔ (∀ i,i<r->dz c (M i) z=0):=by
 have e:∀ i,swapM M m p i=if i=m then M p else if i=p then M m else M i:=by
  intro i;unfold swapM;split
  ·rfl
  ·split <;> rfl
 constructor
 ·intro h i hi
  by_cases e1:i=p
  ·have:=h m hm
   rw [e,if_pos rfl] at this
   rw [e1];exact this
  ·by_cases e2:i=m
   ·have:=h p hp
    rw [e] at this
    by_cases e3:p=m
    ·rw [if_pos e3] at this;rw [e2,<- e3];exact this
    ·rw [if_neg e3,if_pos rfl] at this;rw [e2];exact this
   ·have:=h i hi
    rw [e,if_neg e2,if_neg e1] at this
    exact this
 ·intro h i hi
  rw [e]
  split
  ·exact h p hp
  ·split
   ·exact h m hm
   ·exact h i hi
theorem dz_scale (c:Nat) (f z:Nat->Rat) (q:Rat):dz c (fun j=>f j / q) z=q⁻¹*dz c f z:=by
 unfold dz
 rw [<- sm_mul]
 exact sm_congr fun j _=>by dsimp only;rw [Rat.div_def];grind
theorem dz_sub (c:Nat) (f g z:Nat->Rat) (q:Rat):dz c (fun j=>f j - q*g j) z=dz c f z - q*dz c g z:=by
 unfold dz
 have h1:sm c (fun j=>(f j - q*g j)*z j)=sm c (fun j=>f j*z j+(-q)*(g j*z j)):=sm_congr fun j _=>by grind
 rw [h1,sm_add,sm_mul]
 grind
theorem rat_mul_zero {a b:Rat} (ha:a≠0) (h:a*b=0):b=0:=by
 rcases Rat.mul_eq_zero.1 h with h | h
 ·exact absurd h ha
 ·exact h
theorem rat_inv_ne {a:Rat} (ha:a≠0):a⁻¹≠0:=fun h=>by
 have:=Rat.mul_inv_cancel a ha
 rw [h,Rat.mul_zero] at this
 exact absurd this (by decide)
theorem dz_div {r c m k:Nat} {M:Nat->Nat->Rat} {z:Nat->Rat} (hk:M m k≠0):(∀ i,i<r->dz c (divM M m k i) z=0) ↔ (∀ i,i<r->dz c (M i) z=0):=by
 have e:∀ i,dz c (divM M m k i) z=if i=m then (M m k)⁻¹*dz c (M m) z else dz c (M i) z:=by
  intro i
  by_cases h:i=m
  ·rw [if_pos h,<- dz_scale];unfold divM;simp only [if_pos h]
  ·rw [if_neg h];unfold divM;simp only [if_neg h]
 constructor
 ·intro h i hi
  have:=h i hi
  rw [e] at this
  split at this
  ·rename_i e1;rw [e1];exact rat_mul_zero (rat_inv_ne hk) this
  ·exact this
 ·intro h i hi
  rw [e]
  split
  ·rename_i e1;rw [<- e1,h i hi,Rat.mul_zero]
  ·exact h i hi
theorem dz_elim {r c m k:Nat} {M:Nat->Nat->Rat} {z:Nat->Rat} (hm:m<r):(∀ i,i<r->dz c (elimM M m k i) z=0) ↔ (∀ i,i<r->dz c (M i) z=0):=by
 have e:∀ i,dz c (elimM M m k i) z=if i=m then dz c (M m) z else dz c (M i) z - M i k*dz c (M m) z:=by
  intro i
  by_cases h:i=m
  ·rw [if_pos h];unfold elimM;simp only [if_pos h]
  ·rw [if_neg h,<- dz_sub];unfold elimM;simp only [if_neg h]
 constructor
 ·intro h i hi
  have hm0:=h m hm
  rw [e,if_pos rfl] at hm0
  have:=h i hi
  rw [e] at this
  split at this
  ·rename_i e1;rw [e1];exact this
  ·rw [hm0,Rat.mul_zero] at this
   grind
 ·intro h i hi
  rw [e]
  split
  ·exact h m hm
  ·rw [h i hi,h m hm];grind
structure Red (r c:Nat) (M0 M:Nat->Nat->Rat) (k:Nat) (piv:List Int):Prop where
 ker:∀ z,(∀ i,i<r->dz c (M0 i) z=0) ↔ (∀ i,i<r->dz c (M i) z=0)
 le:piv.length<=r
 lt:∀ a,a<piv.length->0<=gn piv a/\nd piv a<k
 one:∀ a,a<piv.length->M a (nd piv a)=1
 zero:∀ a,a<piv.length->∀ i,i<r->i≠a->M i (nd piv a)=0
 low:∀ i,piv.length<=i->i<r->∀ j,j<k->M i j=0
 left:∀ a,a<piv.length->∀ j,j<nd piv a->M a j=0
 full:piv.length=k/\(∀ a,a<piv.length->nd piv a=a)\/∃ f,f<k/\∀ a,a<piv.length->nd piv a≠f
 inc:∀ a b,b<piv.length->a<b->nd piv a<nd piv b
theorem Red.init {r c:Nat} {M0 M:Nat->Nat->Rat} (h:∀ i j,i<r->j<c->M i j=M0 i j):Red r c M0 M 0 []:=by
 refine ⟨fun z=>?_,Nat.zero_le _,fun a h=>by simp at h,fun a h=>by simp at h,fun a h=>by simp at h,fun i _ _ j hj=>by omega,fun a h=>by simp at h,.inl ⟨rfl,fun a h=>by simp at h⟩,fun a b h=>by simp at h⟩
 have e:∀ i,i<r->dz c (M i) z=dz c (M0 i) z:=fun i hi=>sm_congr fun j hj=>by rw [h i j hi hj]
 exact ⟨fun h i hi=>(e i hi).trans (h i hi),fun h i hi=>(e i hi).symm.trans (h i hi)⟩
theorem Red.skip {r c k:Nat} {M0 M:Nat->Nat->Rat} {piv:List Int} (h:Red r c M0 M k piv) (hz:∀ i,piv.length<=i->i<r->M i k=0):Red r c M0 M (k+1) piv:=by
 refine ⟨h.ker,h.le,fun a ha=>by have:=h.lt a ha;omega,h.one,h.zero,fun i h1 h2 j hj=>?_,h.left,.inr ⟨k,by omega,fun a ha=>by have:=h.lt a ha;omega⟩,h.inc⟩
 by_cases e:j=k
 ·rw [e];exact hz i h1 h2
 ·exact h.low i h1 h2 j (by omega)
theorem nd_app {piv:List Int} {k a:Nat} :nd (piv ++ [(k:Int)]) a=if a<piv.length then nd piv a else if a=piv.length then k else 0:=by
 unfold nd
 rw [gn_app]
 split
 ·rfl
 ·split
  ·rename_i h;rw [h,Nat.sub_self];rfl
  ·rw [gn_ge (by simp;omega)];rfl
theorem Red.step {r c k p:Nat} {M0 M:Nat->Nat->Rat} {piv:List Int} (h:Red r c M0 M k piv) (hk:k<c) (h1:piv.length<=p) (h2:p<r) (hn:M p k≠0) :
  Red r c M0 (elimM (divM (swapM M piv.length p) piv.length k) piv.length k) (k+1) (piv ++ [(k:Int)]):=by
 generalize hm:piv.length=m at *
 have hlt:=h.lt
 have hone:=h.one
 have hzero:=h.zero
 have hlow:=h.low
 have hleft:=h.left
 have hfull:=h.full
 have hinc:=h.inc
 rw [hm] at hlt hone hzero hlow hleft hfull hinc
 have hS:swapM M m p m=M p:=by funext j;simp [swapM]
 have hSk:swapM M m p m k≠0:=by rw [hS];exact hn
 have N:∀ j,divM (swapM M m p) m k m j=M p j / M p k:=fun j=>by simp [divM,swapM]
 have N':∀ i j,i≠m->divM (swapM M m p) m k i j=if i=p then M m j else M i j:=fun i j hi=>by simp [divM,swapM,hi]
 have hmr:m<r:=by omega
 have El:∀ j,elimM (divM (swapM M m p) m k) m k m j=M p j / M p k:=fun j=>by unfold elimM;rw [if_pos rfl,N]
 have El':∀ i j,i≠m->elimM (divM (swapM M m p) m k) m k i j=(if i=p then M m j else M i j) - (if i=p then M m k else M i k)*(M p j / M p k):=fun i j hi=>by unfold elimM;rw [if_neg hi,N,N' i j hi,N' i k hi]
 have hdiv:M p k / M p k=1:=by rw [Rat.div_def];exact Rat.mul_inv_cancel _ hn
 have zdiv:(0:Rat) / M p k=0:=by rw [Rat.div_def,Rat.zero_mul]
 have hlen:(piv ++ [(k:Int)]).length=m+1:=by simp [hm]
 have hnd:∀ a,a<m->nd (piv ++ [(k:Int)]) a=nd piv a:=fun a ha=>by rw [nd_app,if_pos (by omega)]
 have hndm:nd (piv ++ [(k:Int)]) m=k:=by rw [nd_app,if_neg (by omega),if_pos hm.symm]
 refine ⟨fun z=>?_,by omega,fun a ha=>?_,fun a ha=>?_,fun a ha i hi hne=>?_,fun i h3 h4 j hj=>?_,fun a ha j hj=>?_,?_,fun a b hb hab=>?_⟩
 ·rw [h.ker z,<- dz_swap (m:=m) (p:=p) hmr h2,<- dz_div hSk,dz_elim hmr]
 ·rw [hlen] at ha
  by_cases e:a=m
  ·subst e
   refine ⟨?_,by rw [hndm];omega⟩
   rw [gn_app,if_neg (by omega),hm,Nat.sub_self]
   show (0:Int)<=(k:Int)
   omega
  ·refine ⟨?_,by rw [hnd a (by omega)];have:=(hlt a (by omega)).2;omega⟩
   rw [gn_app,if_pos (by omega)];exact (hlt a (by omega)).1
 ·rw [hlen] at ha
  by_cases e:a=m
  ·subst e;rw [hndm,El];exact hdiv
  ·rw [hnd a (by omega),El' a _ e,if_neg (by omega),hzero a (by omega) p h2 (by omega),hone a (by omega),zdiv,Rat.mul_zero];grind
 ·rw [hlen] at ha
  by_cases e:a=m
  ·subst e;rw [hndm,El' i _ hne,hdiv,Rat.mul_one,Rat.sub_self]
  ·rw [hnd a (by omega)]
   by_cases e2:i=m
   ·subst e2;rw [El,hzero a (by omega) p h2 (by omega)];exact zdiv
   ·rw [El' i _ e2,hzero a (by omega) p h2 (by omega),zdiv,Rat.mul_zero]
    by_cases e3:i=p
    ·rw [if_pos e3,hzero a (by omega) m hmr (by omega)];grind
    ·rw [if_neg e3,hzero a (by omega) i hi hne];grind
 ·rw [hlen] at h3
  by_cases e:j=k
  ·subst e;rw [El' i _ (by omega),hdiv,Rat.mul_one,Rat.sub_self]
  ·rw [El' i _ (by omega),hlow p h1 h2 j (by omega),zdiv,Rat.mul_zero]
   by_cases e3:i=p
   ·rw [if_pos e3,hlow m (Nat.le_refl _) hmr j (by omega)];grind
   ·rw [if_neg e3,hlow i (by omega) h4 j (by omega)];grind
 ·rw [hlen] at ha
  by_cases e:a=m
  ·subst e;rw [hndm] at hj;rw [El,hlow p h1 h2 j hj];exact zdiv
  ·rw [hnd a (by omega)] at hj
   have:=(hlt a (by omega)).2
   rw [El' a _ e,if_neg (by omega),hleft a (by omega) j hj,hlow p h1 h2 j (by omega),zdiv,Rat.mul_zero];grind
 ·rcases hfull with ⟨e1,e2⟩ | ⟨f,e1,e2⟩
  ·refine .inl ⟨by omega,fun a ha=>?_⟩
   rw [hlen] at ha
   by_cases e:a=m
   ·subst e;rw [hndm];omega
   ·rw [hnd a (by omega)];exact e2 a (by omega)
  ·refine .inr ⟨f,by omega,fun a ha=>?_⟩
   rw [hlen] at ha
   by_cases e:a=m
   ·subst e;rw [hndm];omega
   ·rw [hnd a (by omega)];exact e2 a (by omega)
 ·rw [hlen] at hb
  by_cases e:b=m
  ·subst e;rw [hndm,hnd a hab];exact (hlt a hab).2
  ·rw [hnd b (by omega),hnd a (by omega)];exact hinc a b (by omega) hab
def augM (n:Nat) (m:Nat->Nat->Rat) (v:Nat->Rat):Nat->Nat->Rat:=fun i j=>if j=n then v i else m i j
theorem dz_aug (n:Nat) (m:Nat->Nat->Rat) (v:Nat->Rat) (i:Nat) (z:Nat->Rat):dz (n+1) (augM n m v i) z=dz n (m i) z+v i*z n:=by
 unfold dz augM
 rw [sm,if_pos rfl]
 congr 1
 exact sm_congr fun j hj=>by rw [if_neg (by omega)]
theorem Red.solved {n:Nat} {m:Nat->Nat->Rat} {v:Nat->Rat} {M:Nat->Nat->Rat} {piv:List Int} (h:Red n (n+1) (augM n m v) M n piv) (hl:piv.length=n) (x:Nat->Rat):(∀ i,i<n->dz n (m i) x=v i) ↔ (∀ i,i<n->x i=M i n):=by
 have hp:∀ a,a<n->nd piv a=a:=by
  rcases h.full with ⟨_,e⟩ | ⟨f,e1,e2⟩
  ·rw [hl] at e;exact e
  ·-- as many pivots as columns:none is free
   exfalso
   have hge:∀ a,a<piv.length->a<=nd piv a:=by
    intro a
    induction a with
    | zero=>intro _;omega
    | succ a ih=>intro ha;have:=h.inc a (a+1) ha (by omega);have:=ih (by omega);omega
   have heq:∀ d a,a+d+1=n->nd piv a<=a:=by
    intro d
    induction d with
    | zero=>intro a ha;have:=(h.lt a (by omega)).2;omega
    | succ d ih=>intro a ha;have:=ih (a+1) (by omega);have:=h.inc a (a+1) (by omega) (by omega);omega
   have h1:=heq (n - f - 1) f (by omega)
   have h2:=hge f (by omega)
   exact e2 f (by omega) (by omega)
 have key:=h.ker (fun j=>if j=n then -1 else x j)
 have e1:∀ i,dz (n+1) (augM n m v i) (fun j=>if j=n then -1 else x j)=dz n (m i) x - v i:=by
  intro i
  rw [dz_aug]
  simp only [if_pos]
  have:dz n (m i) (fun j=>if j=n then -1 else x j)=dz n (m i) x:=sm_congr fun j hj=>by dsimp only;rw [if_neg (by omega)]
  rw [this];grind
 have e2:∀ i,i<n->dz (n+1) (M i) (fun j=>if j=n then -1 else x j)=x i - M i n:=by
  intro i hi
  have hone:=h.one i (by omega)
  rw [hp i hi] at hone
  unfold dz
  rw [sm]
  dsimp only
  rw [if_pos rfl,sm_one hi (fun j hj hne=>?_),if_neg (by omega),hone]
  ·grind
  ·have:=h.zero j (by omega) i hi (by omega)
   rw [hp j hj] at this
   rw [this,Rat.zero_mul]
 constructor
 ·intro hs i hi
  have:=(key.1 fun i hi=>by rw [e1,hs i hi,Rat.sub_self]) i hi
  rw [e2 i hi] at this
  grind
 ·intro hs i hi
  have:=(key.2 fun i hi=>by rw [e2 i hi,hs i hi,Rat.sub_self]) i hi
  rw [e1] at this
  grind
theorem Red.free {n:Nat} {m:Nat->Nat->Rat} {v:Nat->Rat} {M:Nat->Nat->Rat} {piv:List Int} (h:Red n (n+1) (augM n m v) M n piv) (hl:piv.length<n):∃ z:Nat->Rat,(∃ f,f<n/\z f≠0)/\∀ i,i<n->dz n (m i) z=0:=by
 obtain ⟨f,hf,hfree⟩:∃ f,f<n/\∀ a,a<piv.length->nd piv a≠f:=by
  rcases h.full with ⟨e,_⟩ | e
  ·omega
  ·exact e
 let z:Nat->Rat:=fun j=>if j=f then 1 else if ∃ a,a<piv.length/\nd piv a=j then - M (Classical.epsilon fun a=>a<piv.length/\nd piv a=j) f else 0
 have hzf:z f=1:=by simp [z]
 have hinj:∀ a b,a<piv.length->b<piv.length->nd piv a=nd piv b->a=b:=by
  intro a b ha hb e
  rcases Nat.lt_trichotomy a b with c | c | c
  ·have:=h.inc a b hb c;omega
  ·exact c
  ·have:=h.inc b a ha c;omega
 have hzp:∀ a,a<piv.length->z (nd piv a)= - M a f:=by
  intro a ha
  have hex:∃ b,b<piv.length/\nd piv b=nd piv a:=⟨a,ha,rfl⟩
  have hch:=Classical.epsilon_spec hex
  simp only [z]
  rw [if_neg (hfree a ha),if_pos hex,hinj _ a hch.1 ha hch.2]
 have hz0:∀ j,j≠f->(∀ a,a<piv.length->nd piv a≠j)->z j=0:=by
  intro j h1 h2
  simp only [z]
  rw [if_neg h1,if_neg (fun ⟨a,h3,h4⟩=>h2 a h3 h4)]
 refine ⟨fun j=>if j=n then 0 else z j,⟨f,hf,by simp only;rw [if_neg (by omega),hzf];decide⟩,fun i hi=>?_⟩
 have hM:∀ i,i<n->dz (n+1) (M i) (fun j=>if j=n then 0 else z j)=0:=by
  intro i hi
  unfold dz
  rw [sm]
  dsimp only
  rw [if_pos rfl,Rat.mul_zero,Rat.add_zero]
  by_cases hip:i<piv.length
  ·have hlt:=(h.lt i hip).2
   rw [sm_two (k:=nd piv i) (m:=f) hlt hf (hfree i hip) (fun j hj h1 h2=>?_)]
   ·skip
    rw [if_neg (by omega),if_neg (by omega),hzp i hip,hzf,h.one i hip]
    grind
   ·rw [if_neg (by omega)]
    by_cases hj2:∃ a,a<piv.length/\nd piv a=j
    ·obtain ⟨a,ha,rfl⟩:=hj2
     rw [h.zero a ha i hi (fun e=>h1 (by rw [e])),Rat.zero_mul]
    ·rw [hz0 j h2 (fun a ha e=>hj2 ⟨a,ha,e⟩),Rat.mul_zero]
  ·exact sm_zero fun j hj=>by rw [h.low i (by omega) hi j hj,Rat.zero_mul]
 have:=(h.ker _).2 hM i hi
 rw [dz_aug,if_pos rfl,Rat.mul_zero,Rat.add_zero] at this
 exact this
def szR (s:Nat):Nat->Nat
 | 0=>s
 | k+1=>4*szR s k+1
theorem szR_mono (s:Nat) {k n:Nat} (h:k<=n):szR s k<=szR s n:=by
 induction n with
 | zero=>rw [Nat.le_zero.1 h];exact Nat.le_refl _
 | succ n ih=>
  by_cases e:k=n+1
  ·rw [e];exact Nat.le_refl _
  ·have:=ih (by omega);rw [szR];omega
end Go.Proofs.Ytlmpoindlejefaa.E
