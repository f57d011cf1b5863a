/- Joined. -/
import Derived.Test.YtlmpoindlejefaaGreatAM16
set_option linter.unusedVariables false
set_option linter.unusedSimpArgs false
namespace Go.Proofs.YtlmpoindlejefaaGreat.E
open Go Go.RowKit
instance (r:api_Rat):Decidable (valid r):=by unfold valid;infer_instance
theorem natAbs_tmod_gcd (u v:Int):Nat.gcd v.natAbs (u.tmod v).natAbs=Nat.gcd u.natAbs v.natAbs:=by
 rw [Int.natAbs_tmod,Nat.gcd_comm v.natAbs,<- Nat.gcd_rec,Nat.gcd_comm]
theorem num_Valid_run {r:api_Rat} {Q:Bool->Prop} (H:Q (decide (valid r))):(num_Valid.f r).run Q:=by
 have no: ¬ valid r->Q false:=fun h=>by rwa [decide_eq_false h] at H
 unfold num_Valid.f
 refine W.run_if (fun c=>no fun h=>by have:=h.1;omega) (fun c1=>W.run_if (fun c=>no fun h=>by have:=h.2.1;omega) (fun c2=>W.run_if (fun c=>no fun h=>by have:=h.2.2.2.1;omega) (fun c3=>W.run_if (fun c=>no fun h=>by have:=h.2.2.1;omega) (fun c4=>?_))))
 refine W.loop_c (fun s:Int×Int=>Nat.gcd s.1.natAbs s.2.natAbs=Nat.gcd r.N.natAbs r.D.natAbs) (fun s=>s.2.natAbs) rfl ?_
 rintro ⟨u,v⟩ P hg hgo hbrk hout
 simp only at hg hgo |-
 unfold num_Valid.l1
 refine W.run_if (fun c=>W.req_i c (hgo _ ?_ ?_)) (fun c=>hbrk _ ?_)
 ·simp only
  rw [natAbs_tmod_gcd,hg]
 ·simp only
  rw [Int.natAbs_tmod]
  exact Nat.mod_lt _ (by omega)
 ·have hv:v=0:=by omega
  subst hv
  simp at hg
  have e:valid r ↔ u.natAbs=1:=by unfold valid;rw [hg];constructor <;> intro h <;> omega
  unfold num_Valid.j1
  simp only
  refine W.run_if (fun c=>?_) (fun c=>?_)
  ·rwa [show decide (valid r)=true from by simp [e];omega] at H
  ·rwa [show decide (valid r)=decide (u= -1) from by rw [decide_eq_decide,e];omega] at H
theorem ref01_Is_run {r:api_Rat} {Q:Bool->Prop} (H:Q (decide (valid r))):(ref01_Is.f r).run Q:=by
 have no: ¬ valid r->Q false:=fun h=>by rwa [decide_eq_false h] at H
 unfold ref01_Is.f
 refine W.run_if (fun c=>no fun h=>by have:=h.1;omega) (fun c1=>W.run_if (fun c=>no fun h=>by have:=h.2.1;omega) (fun c2=>W.run_if (fun c=>no fun h=>by have:=h.2.2.1;omega) (fun c3=>W.run_if (fun c=>no fun h=>by have:=h.2.2.2.1;omega) (fun c4=>?_))))
 have go:∀ m,m=(r.N.natAbs:Int)->(ref01_Is.j1 r m).run Q:=by
  intro m hm
  unfold ref01_Is.j1
  refine W.loop_c (fun s:Int×Int=>0<=s.1/\0<=s.2/\Nat.gcd s.1.natAbs s.2.natAbs=Nat.gcd r.N.natAbs r.D.natAbs) (fun s=>s.2.natAbs) ⟨by simp only;omega,by simp only;omega,by simp only;rw [hm];simp⟩ ?_
  rintro ⟨u,v⟩ P ⟨h1,h2,hg⟩ hgo hbrk hout
  simp only at h1 h2 hg hgo |-
  unfold ref01_Is.l1
  refine W.run_if (fun c=>W.req_i (by omega) (hgo _ ⟨h2,?_,?_⟩ ?_)) (fun c=>hbrk _ ?_)
  ·exact Int.tmod_nonneg _ h1
  ·simp only
   rw [natAbs_tmod_gcd,hg]
  ·simp only
   rw [Int.natAbs_tmod]
   exact Nat.mod_lt _ (by omega)
  ·have hv:v=0:=by omega
   subst hv
   simp at hg
   have e:valid r ↔ u=1:=by unfold valid;constructor <;> intro h <;> omega
   unfold ref01_Is.j2
   rwa [show decide (valid r)=decide (u=1) from by rw [decide_eq_decide,e]] at H
 exact W.run_if (fun c=>W.req_i (by show _/\_;omega) (go _ (by omega))) (fun c=>go _ (by omega))
section
variable {α:Type} [Inhabited α]
def gd (l:List α) (k:Nat):α:=l.getD k default
theorem gi_gd (l:List α) (k:Nat):gi l (k:Int)=gd l k:=by rw [gi,gd,Int.toNat_natCast]
theorem gd_lt {l:List α} {k:Nat} (h:k<l.length):gd l k=l[k]:=by simp [gd,List.getD_eq_getElem?_getD,h]
theorem gd_set (l:List α) (i:Nat) (x:α) (k:Nat):gd (l.set i x) k=if i=k/\k<l.length then x else gd l k:=by
 simp only [gd,List.getD_eq_getElem?_getD,List.getElem?_set]
 by_cases h:i=k
 ·subst h
  by_cases h2:i<l.length
  ·simp [h2]
  ·simp [h2]
 ·simp [h]
theorem gd_app (l m:List α) (k:Nat):gd (l ++ m) k=if k<l.length then gd l k else gd m (k - l.length):=by
 simp only [gd,List.getD_eq_getElem?_getD,List.getElem?_append]
 split <;> rfl
theorem gd_mem {l:List α} {k:Nat} (h:k<l.length):gd l k ∈ l:=by rw [gd_lt h];exact List.getElem_mem h
end
theorem all_valid_iff (l:List api_Rat):(∀ r ∈ l,valid r) ↔ ∀ k,k<l.length->valid (gd l k):=by
 constructor
 ·intro h k hk;exact h _ (gd_mem hk)
 ·intro h r hr
  obtain ⟨k,hk,rfl⟩:=List.mem_iff_getElem.1 hr
  have:=h k hk
  rwa [gd_lt hk] at this
instance (l:List api_Rat):Decidable (∀ r ∈ l,valid r):=inferInstance
theorem num_AllValid_run {l:List api_Rat} {Q:Bool->Prop} (hl:l.length<=281474976710656) (H:Q (decide (∀ r ∈ l,valid r))):(num_AllValid.f l).run Q:=by
 unfold num_AllValid.f
 refine W.loop_c (fun p=>∃ i:Nat,p=i/\i<=l.length/\∀ k,k<i->valid (gd l k)) (fun p=>l.length - p.toNat) ⟨0,rfl,Nat.zero_le _,fun k hk=>by omega⟩ ?_
 rintro _ P ⟨i,rfl,hi,hv⟩ hgo hbrk hout
 unfold num_AllValid.l1
 rw [gi_gd]
 refine W.run_if (fun c=>W.req_i (by omega) (W.bd (num_Valid_run (W.run_if (fun c2=>hgo _ ⟨i+1,by simp,by omega,fun k hk=>?_⟩ (by omega)) (fun c2=>hout _ ?_))))) (fun c=>hbrk _ ?_)
 ·by_cases e:k=i
  ·subst e;exact of_decide_eq_true c2
  ·exact hv k (by omega)
 ·rwa [decide_eq_false (fun h=>c2 (decide_eq_true (h _ (gd_mem (by omega)))))] at H
 ·rwa [decide_eq_true ((all_valid_iff l).2 fun k hk=>hv k (by omega))] at H
def QL (l:List num_Q) (n:Nat) (f:Nat->Rat):Prop:=l.length=n/\∀ i,i<n->QRep (gd l i) (f i)
def QM (l:List (List num_Q)) (r c:Nat) (f:Nat->Nat->Rat):Prop:=l.length=r/\∀ i,i<r->QL (gd l i) c (f i)
theorem QL.congr {l:List num_Q} {n:Nat} {f g:Nat->Rat} (h:QL l n f) (he:∀ i,i<n->f i=g i):QL l n g:=⟨h.1,fun i hi=>he i hi ▸ h.2 i hi⟩
theorem QM.congr {l:List (List num_Q)} {r c:Nat} {f g:Nat->Nat->Rat} (h:QM l r c f) (he:∀ i j,i<r->j<c->f i j=g i j):QM l r c g:=⟨h.1,fun i hi=>(h.2 i hi).congr fun j hj=>he i j hi hj⟩
theorem QL.set {l:List num_Q} {n:Nat} {f:Nat->Rat} (h:QL l n f) {i:Nat} {q:num_Q} {y:Rat} (hq:QRep q y):QL (l.set i q) n (fun j=>if j=i then y else f j):=by
 refine ⟨by rw [List.length_set];exact h.1,fun j hj=>?_⟩
 rw [gd_set]
 dsimp only
 by_cases e:i=j
 ·subst e;rw [if_pos ⟨rfl,by rw [h.1];exact hj⟩];simpa using hq
 ·rw [if_neg (by omega),if_neg (by omega)];exact h.2 j hj
theorem QM.set {l:List (List num_Q)} {r c:Nat} {f:Nat->Nat->Rat} (h:QM l r c f) {i:Nat} {x:List num_Q} {g:Nat->Rat} (hx:QL x c g):QM (l.set i x) r c (fun k=>if k=i then g else f k):=by
 refine ⟨by rw [List.length_set];exact h.1,fun j hj=>?_⟩
 rw [gd_set]
 dsimp only
 by_cases e:i=j
 ·subst e;rw [if_pos ⟨rfl,by rw [h.1];exact hj⟩];simpa using hx
 ·rw [if_neg (by omega),if_neg (by omega)];exact h.2 j hj
def sm:Nat->(Nat->Rat)->Rat
 | 0,_=>0
 | n+1,f=>sm n f+f n
theorem sm_congr {n:Nat} {f g:Nat->Rat} (h:∀ i,i<n->f i=g i):sm n f=sm n g:=by
 induction n with
 | zero=>rfl
 | succ n ih=>rw [sm,sm,ih fun i hi=>h i (by omega),h n (by omega)]
theorem sm_add (n:Nat) (f g:Nat->Rat):sm n (fun i=>f i+g i)=sm n f+sm n g:=by
 induction n with
 | zero=>simp [sm,Rat.add_zero]
 | succ n ih=>rw [sm,sm,sm,ih];grind
theorem sm_mul (n:Nat) (c:Rat) (f:Nat->Rat):sm n (fun i=>c*f i)=c*sm n f:=by
 induction n with
 | zero=>simp [sm]
 | succ n ih=>rw [sm,sm,ih];grind
theorem sm_zero {n:Nat} {f:Nat->Rat} (h:∀ i,i<n->f i=0):sm n f=0:=by
 induction n with
 | zero=>rfl
 | succ n ih=>rw [sm,ih fun i hi=>h i (by omega),h n (by omega),Rat.add_zero]
theorem sm_one {n k:Nat} {f:Nat->Rat} (hk:k<n) (h:∀ i,i<n->i≠k->f i=0):sm n f=f k:=by
 induction n with
 | zero=>omega
 | succ n ih=>
  rw [sm]
  by_cases e:k=n
  ·subst e
   rw [sm_zero fun i hi=>h i (by omega) (by omega),Rat.zero_add]
  ·rw [ih (by omega) fun i hi hne=>h i (by omega) hne,h n (by omega) (by omega),Rat.add_zero]
theorem Sz.zero:Sz 1 0:=⟨by decide,by decide⟩
theorem Sz.sm {n s:Nat} {f:Nat->Rat} (h:∀ i,i<n->Sz s (f i)):Sz (n*(s+1)+1) (sm n f):=by
 induction n with
 | zero=>rw [Nat.zero_mul];exact Sz.zero
 | succ n ih=>
  have:=(ih fun i hi=>h i (by omega)).add (h n (by omega))
  rw [E.sm]
  exact this.mono (by rw [Nat.add_mul];omega)
end Go.Proofs.YtlmpoindlejefaaGreat.E
namespace Go.Proofs.YtlmpoindlejefaaGreat.E
open Go Go.RowKit
def nd (l:List Int) (k:Nat):Nat:=(gn l k).toNat
def swapM (M:Nat->Nat->Rat) (m p:Nat):Nat->Nat->Rat:=fun i j=>if i=m then M p j else if i=p then M m j else M i j
def divM (M:Nat->Nat->Rat) (m k:Nat):Nat->Nat->Rat:=fun i j=>if i=m then M m j / M m k else M i j
def elimM (M:Nat->Nat->Rat) (m k:Nat):Nat->Nat->Rat:=fun i j=>if i=m then M m j else M i j - M i k*M m j
def dz (c:Nat) (f z:Nat->Rat):Rat:=sm c (fun j=>f j*z j)
theorem dz_swap {r c m p:Nat} {M:Nat->Nat->Rat} {z:Nat->Rat} (hm:m<r) (hp:p<r):(∀ i,i<r->dz c (swapM M m p i) z=0) ↔ (∀ i,i<r->dz c (M i) z=0):=by
 have e:∀ i,swapM M m p i=if i=m then M p else if i=p then M m else M i:=by
  intro i;unfold swapM;split
  ·rfl
  ·split <;> rfl
 constructor
 ·intro h i hi
  by_cases e1:i=p
  ·have:=h m hm
   rw [e,if_pos rfl] at this
   rw [e1];exact this
  ·by_cases e2:i=m
   ·have:=h p hp
    rw [e] at this
    by_cases e3:p=m
    ·rw [if_pos e3] at this;rw [e2,<- e3];exact this
    ·rw [if_neg e3,if_pos rfl] at this;rw [e2];exact this
   ·have:=h i hi
    rw [e,if_neg e2,if_neg e1] at this
    exact this
 ·intro h i hi
  rw [e]
  split
  ·exact h p hp
  ·split
   ·exact h m hm
   ·exact h i hi
theorem dz_scale (c:Nat) (f z:Nat->Rat) (q:Rat):dz c (fun j=>f j / q) z=q⁻¹*dz c f z:=by
 unfold dz
 rw [<- sm_mul]
 exact sm_congr fun j _=>by dsimp only;rw [Rat.div_def];grind
theorem dz_sub (c:Nat) (f g z:Nat->Rat) (q:Rat):dz c (fun j=>f j - q*g j) z=dz c f z - q*dz c g z:=by
 unfold dz
 have h1:sm c (fun j=>(f j - q*g j)*z j)=sm c (fun j=>f j*z j+(-q)*(g j*z j)):=sm_congr fun j _=>by grind
 rw [h1,sm_add,sm_mul]
 grind
theorem rat_mul_zero {a b:Rat} (ha:a≠0) (h:a*b=0):b=0:=by
 rcases Rat.mul_eq_zero.1 h with h | h
 ·exact absurd h ha
 ·exact h
theorem rat_inv_ne {a:Rat} (ha:a≠0):a⁻¹≠0:=fun h=>by
 have:=Rat.mul_inv_cancel a ha
 rw [h,Rat.mul_zero] at this
 exact absurd this (by decide)
theorem dz_div {r c m k:Nat} {M:Nat->Nat->Rat} {z:Nat->Rat} (hk:M m k≠0):(∀ i,i<r->dz c (divM M m k i) z=0) ↔ (∀ i,i<r->dz c (M i) z=0):=by
 have e:∀ i,dz c (divM M m k i) z=if i=m then (M m k)⁻¹*dz c (M m) z else dz c (M i) z:=by
  intro i
  by_cases h:i=m
  ·rw [if_pos h,<- dz_scale];unfold divM;simp only [if_pos h]
  ·rw [if_neg h];unfold divM;simp only [if_neg h]
 constructor
 ·intro h i hi
  have:=h i hi
  rw [e] at this
  split at this
  ·rename_i e1;rw [e1];exact rat_mul_zero (rat_inv_ne hk) this
  ·exact this
 ·intro h i hi
  rw [e]
  split
  ·rename_i e1;rw [<- e1,h i hi,Rat.mul_zero]
  ·exact h i hi
theorem dz_elim {r c m k:Nat} {M:Nat->Nat->Rat} {z:Nat->Rat} (hm:m<r):(∀ i,i<r->dz c (elimM M m k i) z=0) ↔ (∀ i,i<r->dz c (M i) z=0):=by
 have e:∀ i,dz c (elimM M m k i) z=if i=m then dz c (M m) z else dz c (M i) z - M i k*dz c (M m) z:=by
  intro i
  by_cases h:i=m
  ·rw [if_pos h];unfold elimM;simp only [if_pos h]
  ·rw [if_neg h,<- dz_sub];unfold elimM;simp only [if_neg h]
 constructor
 ·intro h i hi
  have hm0:=h m hm
  rw [e,if_pos rfl] at hm0
  have:=h i hi
  rw [e] at this
  split at this
  ·rename_i e1;rw [e1];exact this
  ·rw [hm0,Rat.mul_zero] at this
   grind
 ·intro h i hi
  rw [e]
  split
  ·exact h m hm
  ·rw [h i hi,h m hm];grind
structure Red (r c:Nat) (M0 M:Nat->Nat->Rat) (k:Nat) (piv:List Int):Prop where
 ker:∀ z,(∀ i,i<r->dz c (M0 i) z=0) ↔ (∀ i,i<r->dz c (M i) z=0)
 le:piv.length<=r
 lt:∀ a,a<piv.length->0<=gn piv a/\nd piv a<k
 one:∀ a,a<piv.length->M a (nd piv a)=1
 zero:∀ a,a<piv.length->∀ i,i<r->i≠a->M i (nd piv a)=0
 low:∀ i,piv.length<=i->i<r->∀ j,j<k->M i j=0
 left:∀ a,a<piv.length->∀ j,j<nd piv a->M a j=0
 full:piv.length=k/\(∀ a,a<piv.length->nd piv a=a)\/∃ f,f<k/\∀ a,a<piv.length->nd piv a≠f
 inc:∀ a b,b<piv.length->a<b->nd piv a<nd piv b
theorem Red.init {r c:Nat} {M0 M:Nat->Nat->Rat} (h:∀ i j,i<r->j<c->M i j=M0 i j):Red r c M0 M 0 []:=by
 refine ⟨fun z=>?_,Nat.zero_le _,fun a h=>by simp at h,fun a h=>by simp at h,fun a h=>by simp at h,fun i _ _ j hj=>by omega,fun a h=>by simp at h,.inl ⟨rfl,fun a h=>by simp at h⟩,fun a b h=>by simp at h⟩
 have e:∀ i,i<r->dz c (M i) z=dz c (M0 i) z:=fun i hi=>sm_congr fun j hj=>by rw [h i j hi hj]
 exact ⟨fun h i hi=>(e i hi).trans (h i hi),fun h i hi=>(e i hi).symm.trans (h i hi)⟩
theorem Red.skip {r c k:Nat} {M0 M:Nat->Nat->Rat} {piv:List Int} (h:Red r c M0 M k piv) (hz:∀ i,piv.length<=i->i<r->M i k=0):Red r c M0 M (k+1) piv:=by
 refine ⟨h.ker,h.le,fun a ha=>by have:=h.lt a ha;omega,h.one,h.zero,fun i h1 h2 j hj=>?_,h.left,.inr ⟨k,by omega,fun a ha=>by have:=h.lt a ha;omega⟩,h.inc⟩
 by_cases e:j=k
 ·rw [e];exact hz i h1 h2
 ·exact h.low i h1 h2 j (by omega)
theorem nd_app {piv:List Int} {k a:Nat} :nd (piv ++ [(k:Int)]) a=if a<piv.length then nd piv a else if a=piv.length then k else 0:=by
 unfold nd
 rw [gn_app]
 split
 ·rfl
 ·split
  ·rename_i h;rw [h,Nat.sub_self];rfl
  ·rw [gn_ge (by simp;omega)];rfl
theorem Red.step {r c k p:Nat} {M0 M:Nat->Nat->Rat} {piv:List Int} (h:Red r c M0 M k piv) (hk:k<c) (h1:piv.length<=p) (h2:p<r) (hn:M p k≠0) :
  Red r c M0 (elimM (divM (swapM M piv.length p) piv.length k) piv.length k) (k+1) (piv ++ [(k:Int)]):=by
 generalize hm:piv.length=m at *
 have hlt:=h.lt
 have hone:=h.one
 have hzero:=h.zero
 have hlow:=h.low
 have hleft:=h.left
 have hfull:=h.full
 have hinc:=h.inc
 rw [hm] at hlt hone hzero hlow hleft hfull hinc
 have hS:swapM M m p m=M p:=by funext j;simp [swapM]
 have hSk:swapM M m p m k≠0:=by rw [hS];exact hn
 have N:∀ j,divM (swapM M m p) m k m j=M p j / M p k:=fun j=>by simp [divM,swapM]
 have N':∀ i j,i≠m->divM (swapM M m p) m k i j=if i=p then M m j else M i j:=fun i j hi=>by simp [divM,swapM,hi]
 have hmr:m<r:=by omega
 have El:∀ j,elimM (divM (swapM M m p) m k) m k m j=M p j / M p k:=fun j=>by unfold elimM;rw [if_pos rfl,N]
 have El':∀ i j,i≠m->elimM (divM (swapM M m p) m k) m k i j=(if i=p then M m j else M i j) - (if i=p then M m k else M i k)*(M p j / M p k):=fun i j hi=>by unfold elimM;rw [if_neg hi,N,N' i j hi,N' i k hi]
 have hdiv:M p k / M p k=1:=by rw [Rat.div_def];exact Rat.mul_inv_cancel _ hn
 have zdiv:(0:Rat) / M p k=0:=by rw [Rat.div_def,Rat.zero_mul]
 have hlen:(piv ++ [(k:Int)]).length=m+1:=by simp [hm]
 have hnd:∀ a,a<m->nd (piv ++ [(k:Int)]) a=nd piv a:=fun a ha=>by rw [nd_app,if_pos (by omega)]
 have hndm:nd (piv ++ [(k:Int)]) m=k:=by rw [nd_app,if_neg (by omega),if_pos hm.symm]
 refine ⟨fun z=>?_,by omega,fun a ha=>?_,fun a ha=>?_,fun a ha i hi hne=>?_,fun i h3 h4 j hj=>?_,fun a ha j hj=>?_,?_,fun a b hb hab=>?_⟩
 ·rw [h.ker z,<- dz_swap (m:=m) (p:=p) hmr h2,<- dz_div hSk,dz_elim hmr]
 ·rw [hlen] at ha
  by_cases e:a=m
  ·subst e
   refine ⟨?_,by rw [hndm];omega⟩
   rw [gn_app,if_neg (by omega),hm,Nat.sub_self]
   show (0:Int)<=(k:Int)
   omega
  ·refine ⟨?_,by rw [hnd a (by omega)];have:=(hlt a (by omega)).2;omega⟩
   rw [gn_app,if_pos (by omega)];exact (hlt a (by omega)).1
 ·rw [hlen] at ha
  by_cases e:a=m
  ·subst e;rw [hndm,El];exact hdiv
  ·rw [hnd a (by omega),El' a _ e,if_neg (by omega),hzero a (by omega) p h2 (by omega),hone a (by omega),zdiv,Rat.mul_zero];grind
 ·rw [hlen] at ha
  by_cases e:a=m
  ·subst e;rw [hndm,El' i _ hne,hdiv,Rat.mul_one,Rat.sub_self]
  ·rw [hnd a (by omega)]
   by_cases e2:i=m
   ·subst e2;rw [El,hzero a (by omega) p h2 (by omega)];exact zdiv
   ·rw [El' i _ e2,hzero a (by omega) p h2 (by omega),zdiv,Rat.mul_zero]
    by_cases e3:i=p
    ·rw [if_pos e3,hzero a (by omega) m hmr (by omega)];grind
    ·rw [if_neg e3,hzero a (by omega) i hi hne];grind
 ·rw [hlen] at h3
  by_cases e:j=k
  ·subst e;rw [El' i _ (by omega),hdiv,Rat.mul_one,Rat.sub_self]
  ·rw [El' i _ (by omega),hlow p h1 h2 j (by omega),zdiv,Rat.mul_zero]
   by_cases e3:i=p
   ·rw [if_pos e3,hlow m (Nat.le_refl _) hmr j (by omega)];grind
   ·rw [if_neg e3,hlow i (by omega) h4 j (by omega)];grind
 ·rw [hlen] at ha
  by_cases e:a=m
  ·subst e;rw [hndm] at hj;rw [El,hlow p h1 h2 j hj];exact zdiv
  ·rw [hnd a (by omega)] at hj
   have:=(hlt a (by omega)).2
   rw [El' a _ e,if_neg (by omega),hleft a (by omega) j hj,hlow p h1 h2 j (by omega),zdiv,Rat.mul_zero];grind
 ·rcases hfull with ⟨e1,e2⟩ | ⟨f,e1,e2⟩
  ·refine .inl ⟨by omega,fun a ha=>?_⟩
   rw [hlen] at ha
   by_cases e:a=m
   ·subst e;rw [hndm];omega
   ·rw [hnd a (by omega)];exact e2 a (by omega)
  ·refine .inr ⟨f,by omega,fun a ha=>?_⟩
   rw [hlen] at ha
   by_cases e:a=m
   ·subst e;rw [hndm];omega
   ·rw [hnd a (by omega)];exact e2 a (by omega)
 ·rw [hlen] at hb
  by_cases e:b=m
  ·subst e;rw [hndm,hnd a hab];exact (hlt a hab).2
  ·rw [hnd b (by omega),hnd a (by omega)];exact hinc a b (by omega) hab
def augM (n:Nat) (m:Nat->Nat->Rat) (v:Nat->Rat):Nat->Nat->Rat:=fun i j=>if j=n then v i else m i j
theorem dz_aug (n:Nat) (m:Nat->Nat->Rat) (v:Nat->Rat) (i:Nat) (z:Nat->Rat):dz (n+1) (augM n m v i) z=dz n (m i) z+v i*z n:=by
 unfold dz augM
 rw [sm,if_pos rfl]
 congr 1
 exact sm_congr fun j hj=>by rw [if_neg (by omega)]
end Go.Proofs.YtlmpoindlejefaaGreat.E
namespace Go.Proofs.YtlmpoindlejefaaGreat.E
open Go Go.RowKit
section
variable {r c:Nat} {M:Nat->Nat->Rat} {Q:List Int×List (List num_Q)->Prop}
theorem divM_sz {r c s m k:Nat} {N:Nat->Nat->Rat} (hm:m<r) (hk:k<c) (hN:∀ i j,i<r->j<c->Sz s (N i j)) (h0:N m k≠0):∀ i j,i<r->j<c->Sz (s+s) (divM N m k i j):=by
 intro i j hi hj
 unfold divM
 split
 ·exact (hN m j hm hj).div (hN m k hm hk) h0
 ·exact (hN i j hi hj).mono (by omega)
structure Grows (r c n t:Nat) (Z:Nat->(Nat->Nat->Rat)->Prop):Prop where
 sz:∀ {k N},k<=n->Z k N->∀ i j,i<r->j<c->Sz t (N i j)
 skip:∀ {k N},k<n->Z k N->Z (k+1) N
 step:∀ {k m p N},k<n->m<r->p<r->k<c->Z k N->N p k≠0->Z (k+1) (elimM (divM (swapM N m p) m k) m k)
theorem Grows.all {r c n t:Nat} {Z:Nat->(Nat->Nat->Rat)->Prop} (h:Grows r c n t Z) {k:Nat} {N:Nat->Nat->Rat} (hk:k<=n) (hz:Z k N):Z n N:=by
 obtain ⟨d,rfl⟩:=Nat.exists_eq_add_of_le hk
 have:∀ e,e<=d->Z (k+e) N:=fun e=>by
  induction e with
  | zero=>intro _;exact hz
  | succ e ih=>intro he;exact (show Z (k+e+1) N from h.skip (k:=k+e) (by omega) (ih (by omega)))
 exact this d (Nat.le_refl _)
end
end Go.Proofs.YtlmpoindlejefaaGreat.E
namespace Go.Proofs.YtlmpoindlejefaaGreat.E
open Go Go.RowKit
end Go.Proofs.YtlmpoindlejefaaGreat.E
namespace Go.Proofs.YtlmpoindlejefaaGreat.E
open Go Go.RowKit
theorem Sz.one:Sz 1 1:=⟨by decide,by decide⟩
section
variable {x y:List api_Rat} {Q:api_Rat×api_Rat×Int->Prop}
end
end Go.Proofs.YtlmpoindlejefaaGreat.E
namespace Go.Proofs.YtlmpoindlejefaaGreat.E
open Go Go.RowKit
end Go.Proofs.YtlmpoindlejefaaGreat.E
namespace Go.Proofs.YtlmpoindlejefaaGreat.E
open Go Go.RowKit
def matOk (m:api_Mat):Prop:=(0<=m.R/\m.R<=12)/\(0<=m.C/\m.C<=12)/\(m.V.length:Int)=m.R*m.C/\∀ r ∈ m.V,valid r
theorem mul_in {a b:Int} (ha:0<=a/\a<=13) (hb:0<=b/\b<=13):0<=a*b/\a*b<=169:=by
 have:=Int.mul_le_mul ha.2 hb.2 hb.1 (show (0:Int)<=13 by decide)
 exact ⟨Int.mul_nonneg ha.1 hb.1,by omega⟩
theorem mat_Validate_run {m:api_Mat} {Q:Int->Prop} (hl:m.V.length<=281474976710656) (h0:matOk m->Q 0) (h1: ¬ matOk m->Q 1):(mat_Validate.f m).run Q:=by
 unfold mat_Validate.f
 refine W.run_if (fun c=>h1 fun h=>by have:=h.1;omega) (fun c1=>W.run_if (fun c=>h1 fun h=>by have:=h.1;omega) (fun c2=>W.run_if (fun c=>h1 fun h=>by have:=h.2.1;omega) (fun c3=>W.run_if (fun c=>h1 fun h=>by have:=h.2.1;omega) (fun c4=>?_))))
 have hp:=mul_in (a:=m.R) (b:=m.C) (by omega) (by omega)
 exact W.req_i (by show _/\_;omega) (W.run_if (fun c=>h1 fun h=>c h.2.2.1) (fun c5=>W.bd (num_AllValid_run hl (W.run_if (fun c=>h0 ⟨by omega,by omega,by omega,of_decide_eq_true c⟩) (fun c=>h1 fun h=>c (decide_eq_true h.2.2.2))))))
theorem ref04_numbers_run {l:List api_Rat} {Q:Int->Prop} (hl:l.length<=281474976710656) (h0:(∀ r ∈ l,valid r)->Q 0) (h1:(¬ ∀ r ∈ l,valid r)->Q 1):(ref04_numbers.f l).run Q:=by
 unfold ref04_numbers.f
 refine W.loop_c (fun p=>∃ i:Nat,p=i/\i<=l.length/\∀ k,k<i->valid (gd l k)) (fun p=>l.length - p.toNat) ⟨0,rfl,Nat.zero_le _,fun k hk=>by omega⟩ ?_
 rintro _ P ⟨i,rfl,hi,hv⟩ hgo hbrk hout
 unfold ref04_numbers.l1
 rw [gi_gd]
 refine W.run_if (fun c=>W.req_i (by omega) (W.bd (ref01_Is_run (W.run_if (fun c2=>hgo _ ⟨i+1,by simp,by omega,fun k hk=>?_⟩ (by omega)) (fun c2=>hout _ (h1 fun h=>c2 (decide_eq_true (h _ (gd_mem (by omega)))))))))) (fun c=>hbrk _ (h0 ((all_valid_iff l).2 fun k hk=>hv k (by omega))))
 by_cases e:k=i
 ·subst e;exact of_decide_eq_true c2
 ·exact hv k (by omega)
theorem ref04_Validate_run {m:api_Mat} {Q:Int->Prop} (hl:m.V.length<=281474976710656) (h0:matOk m->Q 0) (h1: ¬ matOk m->Q 1):(ref04_Validate.f m).run Q:=by
 unfold ref04_Validate.f
 refine W.run_if (fun c=>h1 fun h=>by have:=h.1;omega) (fun c1=>W.run_if (fun c=>h1 fun h=>by have:=h.1;omega) (fun c2=>W.run_if (fun c=>h1 fun h=>by have:=h.2.1;omega) (fun c3=>W.run_if (fun c=>h1 fun h=>by have:=h.2.1;omega) (fun c4=>?_))))
 have hp:=mul_in (a:=m.R) (b:=m.C) (by omega) (by omega)
 exact W.req_i (by show _/\_;omega) (W.run_if (fun c=>h1 fun h=>c h.2.2.1) (fun c5=>W.bd (ref04_numbers_run hl (fun c=>h0 ⟨by omega,by omega,by omega,c⟩) (fun c=>h1 fun h=>c h.2.2.2))))
theorem gd_cut {α:Type} [Inhabited α] (l:List α) (a b k:Nat) (h:k<b):gd ((l.drop a).take b) k=gd l (a+k):=by
 simp [gd,List.getD_eq_getElem?_getD,List.getElem?_take,h,List.getElem?_drop]
theorem cut_eq {α:Type} (l:List α) (i c:Nat):(l.drop ((i:Int)*(c:Int)).toNat).take (((i:Int)+1)*(c:Int) - (i:Int)*(c:Int)).toNat=(l.drop (i*c)).take c:=by
 have e:((i:Int)+1)*(c:Int) - (i:Int)*(c:Int)=(c:Int):=by rw [Int.add_mul,Int.one_mul];omega
 rw [e,<- Int.natCast_mul,Int.toNat_natCast,Int.toNat_natCast]
theorem at_lt {i r k c:Nat} (hi:i<r) (hk:k<c):i*c+k<r*c:=by
 have:=Nat.mul_le_mul_right c (show i+1<=r from hi)
 rw [Nat.add_mul] at this
 omega
theorem row_in {n i r c:Nat} (hl:n=r*c) (hi:i<r):(0:Int)<=(i:Int)*(c:Int)/\(i:Int)*(c:Int)<=((i:Int)+1)*(c:Int)/\((i:Int)+1)*(c:Int)<=(n:Int):=by
 have:=Nat.mul_le_mul_right c (show i+1<=r from hi)
 rw [Nat.add_mul] at this
 have e:((i:Int)+1)*(c:Int)=(i:Int)*(c:Int)+(c:Int):=by rw [Int.add_mul,Int.one_mul]
 rw [e,<- Int.natCast_mul]
 omega
theorem cut_len {α:Type} {l:List α} {i r c:Nat} (hl:l.length=r*c) (hi:i<r):((l.drop (i*c)).take c).length=c:=by
 have:=Nat.mul_le_mul_right c (show i+1<=r from hi)
 rw [Nat.add_mul] at this
 rw [List.length_take,List.length_drop]
 omega
def mxv (v:List api_Rat) (c j i:Nat):Rat:=ratOf (gd v (j*c+i))
theorem num_In_run {l:List api_Rat} {n:Nat} {f:Nat->Rat} {Q:List num_Q->Prop} (hn:l.length=n) (hn2:n<=1000000) (hv:∀ k,k<n->valid (gd l k)/\ratOf (gd l k)=f k) (H:∀ o,QL o n f->Q o):(num_In.f l).run Q:=by
 unfold num_In.f
 rw [Int.toNat_natCast]
 refine W.req_i (by omega) ?_
 refine W.loop_c (fun s:List num_Q×Int=>∃ i:Nat,s.2=i/\i<=n/\s.1.length=n/\∀ j,j<i->QRep (gd s.1 j) (f j)) (fun s=>n - s.2.toNat) ⟨0,rfl,Nat.zero_le _,by simp [hn],fun j hj=>by omega⟩ ?_
 rintro ⟨o,_⟩ P ⟨i,rfl,hi,h1,h2⟩ hgo hbrk hout
 simp only at h1 h2 hgo |-
 unfold num_In.l1
 simp only [gi_gd,Int.toNat_natCast]
 refine W.run_if (fun c=>W.req_i (by omega) (W.bd (num_Of_run (hv i (by omega)).1 fun z hz=>W.req_i (by omega) (hgo _ ⟨i+1,by simp,by omega,by simp [h1],fun j hj=>?_⟩ (by simp;omega))))) (fun c=>hbrk _ (H _ ⟨h1,fun j hj=>h2 j (by omega)⟩))
 rw [gd_set]
 by_cases e:i=j
 ·subst e;rw [if_pos ⟨rfl,by omega⟩,<- (hv i (by omega)).2];exact hz
 ·rw [if_neg (by omega)];exact h2 j (by omega)
theorem matOk.at {m:api_Mat} {r c:Nat} (h:matOk m) (hR:m.R=r) (hC:m.C=c):m.V.length=r*c/\∀ j i,j<r->i<c->valid (gd m.V (j*c+i)):=by
 have hl:m.V.length=r*c:=by
  have:=h.2.2.1
  rw [hR,hC,<- Int.natCast_mul] at this
  exact Int.ofNat.inj this
 refine ⟨hl,fun j i hj hi=>(all_valid_iff _).1 h.2.2.2 _ ?_⟩
 rw [hl]
 exact at_lt hj hi
def tolds (n:Nat) (f:Nat->Rat):List api_Rat:=(List.range n).map fun i=>(toldR (f i)).1
def allTold (n:Nat) (f:Nat->Rat):Prop:=∀ i,i<n->(toldR (f i)).2=true
theorem tolds_len (n:Nat) (f:Nat->Rat):(tolds n f).length=n:=by simp [tolds]
theorem tolds_congr {n:Nat} {f g:Nat->Rat} (h:∀ i,i<n->f i=g i):tolds n f=tolds n g:=by
 unfold tolds
 exact List.map_congr_left fun i hi=>by rw [h i (List.mem_range.1 hi)]
theorem num_Outs_run {l:List num_Q} {n:Nat} {f:Nat->Rat} {Q:List api_Rat×Bool->Prop} (hl:QL l n f) (hn:n<=1000000) (h1:allTold n f->Q (tolds n f,true)) (h2: ¬ allTold n f->Q ([],false)):(num_Outs.f l).run Q:=by
 have hll:=hl.1
 unfold num_Outs.f
 rw [Int.toNat_natCast]
 refine W.req_i (by omega) ?_
 refine W.loop_c (fun s:List api_Rat×Int=>∃ i:Nat,s.2=i/\i<=n/\s.1.length=n/\∀ j,j<i->gd s.1 j=(toldR (f j)).1/\(toldR (f j)).2=true) (fun s=>n - s.2.toNat) ⟨0,rfl,Nat.zero_le _,by simp [hll],fun j hj=>by omega⟩ ?_
 rintro ⟨o,_⟩ P ⟨i,rfl,hi,k1,k2⟩ hgo hbrk hout
 simp only at k1 k2 hgo |-
 unfold num_Outs.l1
 simp only [gi_gd,Int.toNat_natCast]
 refine W.run_if (fun c=>W.req_i (by omega) (W.bd (num_Out_run (hl.2 i (by omega)) (W.run_if (fun c2=>W.req_i (by omega) (hgo _ ⟨i+1,by simp,by omega,by simp [k1],fun j hj=>?_⟩ (by simp;omega))) (fun c2=>hout _ (h2 fun h=>c2 (h i (by omega)))))))) (fun c=>hbrk _ ?_)
 ·rw [gd_set]
  by_cases e:i=j
  ·subst e;rw [if_pos ⟨rfl,by omega⟩];exact ⟨rfl,c2⟩
  ·rw [if_neg (by omega)];exact k2 j (by omega)
 ·have e:o=tolds n f:=by
   apply List.ext_getElem
   ·rw [k1,tolds_len]
   ·intro j a b
    have:=(k2 j (by omega)).1
    rw [gd_lt a] at this
    rw [this]
    simp [tolds]
  have:=h1 fun j hj=>(k2 j (by omega)).2
  rw [<- e] at this
  exact this
end Go.Proofs.YtlmpoindlejefaaGreat.E
namespace Go.Proofs.YtlmpoindlejefaaGreat.E
open Go Go.RowKit
theorem dz_ext {n:Nat} {f x y:Nat->Rat} (h:∀ i,i<n->x i=y i):dz n f x=dz n f y:=sm_congr fun i hi=>by rw [h i hi]
end Go.Proofs.YtlmpoindlejefaaGreat.E
