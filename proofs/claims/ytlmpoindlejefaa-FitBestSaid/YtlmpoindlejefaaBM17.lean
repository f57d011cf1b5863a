/- Joined. -/
import Derived.Test.YtlmpoindlejefaaBM16
set_option linter.unusedVariables false
set_option linter.unusedSimpArgs false
namespace Go.Proofs.Ytlmpoindlejefaa.E
open Go Go.RowKit
instance (r:zAC):Decidable (valid r):=by unfold valid;infer_instance
theorem zEs (u v:Int):Nat.gcd v.natAbs (u.tmod v).natAbs=Nat.gcd u.natAbs v.natAbs:=by
 rw [Int.natAbs_tmod,Nat.gcd_comm v.natAbs,<- Nat.gcd_rec,Nat.gcd_comm]
theorem zHG {r:zAC} {Q:Bool->Prop} (H:Q (decide (valid r))):(zB3.f r).run Q:=by
 have no: ¬ valid r->Q false:=fun h=>by rwa [decide_eq_false h] at H
 unfold zB3.f
 refine W.run_if (fun c=>no fun h=>by have:=h.1;omega) (fun c1=>W.run_if (fun c=>no fun h=>by have:=h.2.1;omega) (fun c2=>W.run_if (fun c=>no fun h=>by have:=h.2.2.2.1;omega) (fun c3=>W.run_if (fun c=>no fun h=>by have:=h.2.2.1;omega) (fun c4=>?_))))
 refine W.loop_c (fun s:Int×Int=>Nat.gcd s.1.natAbs s.2.natAbs=Nat.gcd r.N.natAbs r.D.natAbs) (fun s=>s.2.natAbs) rfl ?_
 rintro ⟨u,v⟩ P hg hgo hbrk hout
 simp only at hg hgo |-
 unfold zB3.l1
 refine W.run_if (fun c=>W.req_i c (hgo _ ?_ ?_)) (fun c=>hbrk _ ?_)
 ·simp only
  rw [zEs,hg]
 ·simp only
  rw [Int.natAbs_tmod]
  exact Nat.mod_lt _ (by omega)
 ·have hv:v=0:=by omega
  subst hv
  simp at hg
  have e:valid r ↔ u.natAbs=1:=by unfold valid;rw [hg];constructor <;> intro h <;> omega
  unfold zB3.j1
  simp only
  refine W.run_if (fun c=>?_) (fun c=>?_)
  ·rwa [show decide (valid r)=true from by simp [e];omega] at H
  ·rwa [show decide (valid r)=decide (u= -1) from by rw [decide_eq_decide,e];omega] at H
theorem zFp {r:zAC} {Q:Bool->Prop} (H:Q (decide (valid r))):(zBP.f r).run Q:=by
 have no: ¬ valid r->Q false:=fun h=>by rwa [decide_eq_false h] at H
 unfold zBP.f
 refine W.run_if (fun c=>no fun h=>by have:=h.1;omega) (fun c1=>W.run_if (fun c=>no fun h=>by have:=h.2.1;omega) (fun c2=>W.run_if (fun c=>no fun h=>by have:=h.2.2.1;omega) (fun c3=>W.run_if (fun c=>no fun h=>by have:=h.2.2.2.1;omega) (fun c4=>?_))))
 have go:∀ m,m=(r.N.natAbs:Int)->(zBP.j1 r m).run Q:=by
  intro m hm
  unfold zBP.j1
  refine W.loop_c (fun s:Int×Int=>0<=s.1/\0<=s.2/\Nat.gcd s.1.natAbs s.2.natAbs=Nat.gcd r.N.natAbs r.D.natAbs) (fun s=>s.2.natAbs) ⟨by simp only;omega,by simp only;omega,by simp only;rw [hm];simp⟩ ?_
  rintro ⟨u,v⟩ P ⟨h1,h2,hg⟩ hgo hbrk hout
  simp only at h1 h2 hg hgo |-
  unfold zBP.l1
  refine W.run_if (fun c=>W.req_i (by omega) (hgo _ ⟨h2,?_,?_⟩ ?_)) (fun c=>hbrk _ ?_)
  ·exact Int.tmod_nonneg _ h1
  ·simp only
   rw [zEs,hg]
  ·simp only
   rw [Int.natAbs_tmod]
   exact Nat.mod_lt _ (by omega)
  ·have hv:v=0:=by omega
   subst hv
   simp at hg
   have e:valid r ↔ u=1:=by unfold valid;constructor <;> intro h <;> omega
   unfold zBP.j2
   rwa [show decide (valid r)=decide (u=1) from by rw [decide_eq_decide,e]] at H
 exact W.run_if (fun c=>W.req_i (by show _/\_;omega) (go _ (by omega))) (fun c=>go _ (by omega))
section
variable {α:Type} [Inhabited α]
def gd (l:List α) (k:Nat):α:=l.getD k default
theorem zCI (l:List α) (k:Nat):gi l (k:Int)=gd l k:=by rw [gi,gd,Int.toNat_natCast]
theorem gi_gdi {l:List α} {i:Int} {k:Nat} (h:i=k):gi l i=gd l k:=by rw [h,zCI]
theorem zHN {l:List α} {k:Nat} (h:k<l.length):gd l k=l[k]:=by simp [gd,List.getD_eq_getElem?_getD,h]
theorem zCX (l:List α) (i:Nat) (x:α) (k:Nat):gd (l.set i x) k=if i=k/\k<l.length then x else gd l k:=by
 simp only [gd,List.getD_eq_getElem?_getD,List.getElem?_set]
 by_cases h:i=k
 ·subst h
  by_cases h2:i<l.length
  ·simp [h2]
  ·simp [h2]
 ·simp [h]
theorem zGf (l m:List α) (k:Nat):gd (l ++ m) k=if k<l.length then gd l k else gd m (k - l.length):=by
 simp only [gd,List.getD_eq_getElem?_getD,List.getElem?_append]
 split <;> rfl
theorem zIK {l:List α} {k:Nat} (h:k<l.length):gd l k ∈ l:=by rw [zHN h];exact List.getElem_mem h
end
theorem zAv (l:List zAC):(∀ r ∈ l,valid r) ↔ ∀ k,k<l.length->valid (gd l k):=by
 constructor
 ·intro h k hk;exact h _ (zIK hk)
 ·intro h r hr
  obtain ⟨k,hk,rfl⟩:=List.mem_iff_getElem.1 hr
  have:=h k hk
  rwa [zHN hk] at this
instance (l:List zAC):Decidable (∀ r ∈ l,valid r):=inferInstance
theorem zBs {l:List zAC} {Q:Bool->Prop} (hl:l.length<=281474976710656) (H:Q (decide (∀ r ∈ l,valid r))):(zAr.f l).run Q:=by
 unfold zAr.f
 refine W.loop_c (fun p=>∃ i:Nat,p=i/\i<=l.length/\∀ k,k<i->valid (gd l k)) (fun p=>l.length - p.toNat) ⟨0,rfl,Nat.zero_le _,fun k hk=>by omega⟩ ?_
 rintro _ P ⟨i,rfl,hi,hv⟩ hgo hbrk hout
 unfold zAr.l1
 rw [zCI]
 refine W.run_if (fun c=>W.req_i (by omega) (W.bd (zHG (W.run_if (fun c2=>hgo _ ⟨i+1,by simp,by omega,fun k hk=>?_⟩ (by omega)) (fun c2=>hout _ ?_))))) (fun c=>hbrk _ ?_)
 ·by_cases e:k=i
  ·subst e;exact of_decide_eq_true c2
  ·exact hv k (by omega)
 ·rwa [decide_eq_false (fun h=>c2 (decide_eq_true (h _ (zIK (by omega)))))] at H
 ·rwa [decide_eq_true ((zAv l).2 fun k hk=>hv k (by omega))] at H
theorem zFO {l:List zAC} {Q:Bool->Prop} (hl:l.length<=281474976710656) (H:Q (decide (∀ r ∈ l,valid r))):(zB0.f l).run Q:=by
 unfold zB0.f
 refine W.loop_c (fun p=>∃ i:Nat,p=i/\i<=l.length/\∀ k,k<i->valid (gd l k)) (fun p=>l.length - p.toNat) ⟨0,rfl,Nat.zero_le _,fun k hk=>by omega⟩ ?_
 rintro _ P ⟨i,rfl,hi,hv⟩ hgo hbrk hout
 unfold zB0.l1
 rw [zCI]
 refine W.run_if (fun c=>W.req_i (by omega) (W.bd (zFp (W.run_if (fun c2=>hgo _ ⟨i+1,by simp,by omega,fun k hk=>?_⟩ (by omega)) (fun c2=>hout _ ?_))))) (fun c=>hbrk _ ?_)
 ·by_cases e:k=i
  ·subst e;exact of_decide_eq_true c2
  ·exact hv k (by omega)
 ·rwa [decide_eq_false (fun h=>c2 (decide_eq_true (h _ (zIK (by omega)))))] at H
 ·rwa [decide_eq_true ((zAv l).2 fun k hk=>hv k (by omega))] at H
def QL (l:List zAD) (n:Nat) (f:Nat->Rat):Prop:=l.length=n/\∀ i,i<n->QRep (gd l i) (f i)
def QM (l:List (List zAD)) (r c:Nat) (f:Nat->Nat->Rat):Prop:=l.length=r/\∀ i,i<r->QL (gd l i) c (f i)
theorem QL.congr {l:List zAD} {n:Nat} {f g:Nat->Rat} (h:QL l n f) (he:∀ i,i<n->f i=g i):QL l n g:=⟨h.1,fun i hi=>he i hi ▸ h.2 i hi⟩
theorem QM.congr {l:List (List zAD)} {r c:Nat} {f g:Nat->Nat->Rat} (h:QM l r c f) (he:∀ i j,i<r->j<c->f i j=g i j):QM l r c g:=⟨h.1,fun i hi=>(h.2 i hi).congr fun j hj=>he i j hi hj⟩
theorem QL.set {l:List zAD} {n:Nat} {f:Nat->Rat} (h:QL l n f) {i:Nat} {q:zAD} {y:Rat} (hq:QRep q y):QL (l.set i q) n (fun j=>if j=i then y else f j):=by
 refine ⟨by rw [List.length_set];exact h.1,fun j hj=>?_⟩
 rw [zCX]
 dsimp only
 by_cases e:i=j
 ·subst e;rw [if_pos ⟨rfl,by rw [h.1];exact hj⟩];simpa using hq
 ·rw [if_neg (by omega),if_neg (by omega)];exact h.2 j hj
theorem QL.snoc {l:List zAD} {n:Nat} {f:Nat->Rat} (h:QL l n f) {q:zAD} {y:Rat} (hq:QRep q y):QL (l ++ [q]) (n+1) (fun j=>if j=n then y else f j):=by
 refine ⟨by rw [List.length_append,h.1];rfl,fun j hj=>?_⟩
 rw [zGf,h.1]
 dsimp only
 by_cases e:j=n
 ·subst e;rw [if_neg (by omega),if_pos rfl,Nat.sub_self];exact hq
 ·rw [if_pos (by omega),if_neg e];exact h.2 j (by omega)
theorem QM.set {l:List (List zAD)} {r c:Nat} {f:Nat->Nat->Rat} (h:QM l r c f) {i:Nat} {x:List zAD} {g:Nat->Rat} (hx:QL x c g):QM (l.set i x) r c (fun k=>if k=i then g else f k):=by
 refine ⟨by rw [List.length_set];exact h.1,fun j hj=>?_⟩
 rw [zCX]
 dsimp only
 by_cases e:i=j
 ·subst e;rw [if_pos ⟨rfl,by rw [h.1];exact hj⟩];simpa using hx
 ·rw [if_neg (by omega),if_neg (by omega)];exact h.2 j hj
def sm:Nat->(Nat->Rat)->Rat
 | 0,_=>0
 | n+1,f=>sm n f+f n
theorem zAW {n:Nat} {f g:Nat->Rat} (h:∀ i,i<n->f i=g i):sm n f=sm n g:=by
 induction n with
 | zero=>rfl
 | succ n ih=>rw [sm,sm,ih fun i hi=>h i (by omega),h n (by omega)]
theorem zER (n:Nat) (f g:Nat->Rat):sm n (fun i=>f i+g i)=sm n f+sm n g:=by
 induction n with
 | zero=>simp [sm,Rat.add_zero]
 | succ n ih=>rw [sm,sm,sm,ih];grind
theorem zDl (n:Nat) (c:Rat) (f:Nat->Rat):sm n (fun i=>c*f i)=c*sm n f:=by
 induction n with
 | zero=>simp [sm]
 | succ n ih=>rw [sm,sm,ih];grind
theorem zCz {n:Nat} {f:Nat->Rat} (h:∀ i,i<n->f i=0):sm n f=0:=by
 induction n with
 | zero=>rfl
 | succ n ih=>rw [sm,ih fun i hi=>h i (by omega),h n (by omega),Rat.add_zero]
theorem zHZ {n k:Nat} {f:Nat->Rat} (hk:k<n) (h:∀ i,i<n->i≠k->f i=0):sm n f=f k:=by
 induction n with
 | zero=>omega
 | succ n ih=>
  rw [sm]
  by_cases e:k=n
  ·subst e
   rw [zCz fun i hi=>h i (by omega) (by omega),Rat.zero_add]
  ·rw [ih (by omega) fun i hi hne=>h i (by omega) hne,h n (by omega) (by omega),Rat.add_zero]
theorem sm_two {n k m:Nat} {f:Nat->Rat} (hk:k<n) (hm:m<n) (hkm:k≠m) (h:∀ i,i<n->i≠k->i≠m->f i=0):sm n f=f k+f m:=by
 have e:sm n f=sm n (fun i=>(if i=k then f i else 0)+(if i=k then 0 else f i)):=zAW fun i _=>by
  by_cases e:i=k
  ·rw [if_pos e,if_pos e,Rat.add_zero]
  ·rw [if_neg e,if_neg e,Rat.zero_add]
 rw [e,zER,zHZ hk (fun i _ hi=>by rw [if_neg hi]),zHZ hm (fun i hi hi2=>?_),if_pos rfl,if_neg (Ne.symm hkm)]
 by_cases e:i=k
 ·rw [if_pos e]
 ·rw [if_neg e,h i hi e hi2]
theorem Sz.zero:Sz 1 0:=⟨by decide,by decide⟩
theorem Sz.sm {n s:Nat} {f:Nat->Rat} (h:∀ i,i<n->Sz s (f i)):Sz (n*(s+1)+1) (sm n f):=by
 induction n with
 | zero=>rw [Nat.zero_mul];exact Sz.zero
 | succ n ih=>
  have:=(ih fun i hi=>h i (by omega)).add (h n (by omega))
  rw [E.sm]
  exact this.mono (by rw [Nat.add_mul];omega)
end Go.Proofs.Ytlmpoindlejefaa.E
namespace Go.Proofs.Ytlmpoindlejefaa.E
open Go Go.RowKit
def nd (l:List Int) (k:Nat):Nat:=(gn l k).toNat
def swapM (M:Nat->Nat->Rat) (m p:Nat):Nat->Nat->Rat:=fun i j=>if i=m then M p j else if i=p then M m j else M i j
def divM (M:Nat->Nat->Rat) (m k:Nat):Nat->Nat->Rat:=fun i j=>if i=m then M m j / M m k else M i j
def elimM (M:Nat->Nat->Rat) (m k:Nat):Nat->Nat->Rat:=fun i j=>if i=m then M m j else M i j - M i k*M m j
def dz (c:Nat) (f z:Nat->Rat):Rat:=sm c (fun j=>f j*z j)
theorem dz_swap {r c m p:Nat} {M:Nat->Nat->Rat} {z:Nat->Rat} (hm:m<r) (hp:p<r):(∀ i,i<r->dz c (swapM M m p i) z=0) ↔ (∀ i,i<r->dz c (M i) z=0):=by
 have e:∀ i,swapM M m p i=if i=m then M p else if i=p then M m else M i:=by
  intro i;unfold swapM;split
  ·rfl
  ·split <;> rfl
 constructor
 ·intro h i hi
  by_cases e1:i=p
  ·have:=h m hm
   rw [e,if_pos rfl] at this
   rw [e1];exact this
  ·by_cases e2:i=m
   ·have:=h p hp
    rw [e] at this
    by_cases e3:p=m
    ·rw [if_pos e3] at this;rw [e2,<- e3];exact this
    ·rw [if_neg e3,if_pos rfl] at this;rw [e2];exact this
   ·have:=h i hi
    rw [e,if_neg e2,if_neg e1] at this
    exact this
 ·intro h i hi
  rw [e]
  split
  ·exact h p hp
  ·split
   ·exact h m hm
   ·exact h i hi
theorem dz_scale (c:Nat) (f z:Nat->Rat) (q:Rat):dz c (fun j=>f j / q) z=q⁻¹*dz c f z:=by
 unfold dz
 rw [<- zDl]
 exact zAW fun j _=>by dsimp only;rw [Rat.div_def];grind
theorem dz_sub (c:Nat) (f g z:Nat->Rat) (q:Rat):dz c (fun j=>f j - q*g j) z=dz c f z - q*dz c g z:=by
 unfold dz
 have h1:sm c (fun j=>(f j - q*g j)*z j)=sm c (fun j=>f j*z j+(-q)*(g j*z j)):=zAW fun j _=>by grind
 rw [h1,zER,zDl]
 grind
theorem zHb {a b:Rat} (ha:a≠0) (h:a*b=0):b=0:=by
 rcases Rat.mul_eq_zero.1 h with h | h
 ·exact absurd h ha
 ·exact h
theorem zIW {a:Rat} (ha:a≠0):a⁻¹≠0:=fun h=>by
 have:=Rat.mul_inv_cancel a ha
 rw [h,Rat.mul_zero] at this
 exact absurd this (by decide)
theorem dz_div {r c m k:Nat} {M:Nat->Nat->Rat} {z:Nat->Rat} (hk:M m k≠0):(∀ i,i<r->dz c (divM M m k i) z=0) ↔ (∀ i,i<r->dz c (M i) z=0):=by
 have e:∀ i,dz c (divM M m k i) z=if i=m then (M m k)⁻¹*dz c (M m) z else dz c (M i) z:=by
  intro i
  by_cases h:i=m
  ·rw [if_pos h,<- dz_scale];unfold divM;simp only [if_pos h]
  ·rw [if_neg h];unfold divM;simp only [if_neg h]
 constructor
 ·intro h i hi
  have:=h i hi
  rw [e] at this
  split at this
  ·rename_i e1;rw [e1];exact zHb (zIW hk) this
  ·exact this
 ·intro h i hi
  rw [e]
  split
  ·rename_i e1;rw [<- e1,h i hi,Rat.mul_zero]
  ·exact h i hi
theorem dz_elim {r c m k:Nat} {M:Nat->Nat->Rat} {z:Nat->Rat} (hm:m<r):(∀ i,i<r->dz c (elimM M m k i) z=0) ↔ (∀ i,i<r->dz c (M i) z=0):=by
 have e:∀ i,dz c (elimM M m k i) z=if i=m then dz c (M m) z else dz c (M i) z - M i k*dz c (M m) z:=by
  intro i
  by_cases h:i=m
  ·rw [if_pos h];unfold elimM;simp only [if_pos h]
  ·rw [if_neg h,<- dz_sub];unfold elimM;simp only [if_neg h]
 constructor
 ·intro h i hi
  have hm0:=h m hm
  rw [e,if_pos rfl] at hm0
  have:=h i hi
  rw [e] at this
  split at this
  ·rename_i e1;rw [e1];exact this
  ·rw [hm0,Rat.mul_zero] at this
   grind
 ·intro h i hi
  rw [e]
  split
  ·exact h m hm
  ·rw [h i hi,h m hm];grind
structure Red (r c:Nat) (M0 M:Nat->Nat->Rat) (k:Nat) (piv:List Int):Prop where
 ker:∀ z,(∀ i,i<r->dz c (M0 i) z=0) ↔ (∀ i,i<r->dz c (M i) z=0)
 le:piv.length<=r
 lt:∀ a,a<piv.length->0<=gn piv a/\nd piv a<k
 one:∀ a,a<piv.length->M a (nd piv a)=1
 zero:∀ a,a<piv.length->∀ i,i<r->i≠a->M i (nd piv a)=0
 low:∀ i,piv.length<=i->i<r->∀ j,j<k->M i j=0
 left:∀ a,a<piv.length->∀ j,j<nd piv a->M a j=0
 full:piv.length=k/\(∀ a,a<piv.length->nd piv a=a)\/∃ f,f<k/\∀ a,a<piv.length->nd piv a≠f
 inc:∀ a b,b<piv.length->a<b->nd piv a<nd piv b
theorem Red.init {r c:Nat} {M0 M:Nat->Nat->Rat} (h:∀ i j,i<r->j<c->M i j=M0 i j):Red r c M0 M 0 []:=by
 refine ⟨fun z=>?_,Nat.zero_le _,fun a h=>by simp at h,fun a h=>by simp at h,fun a h=>by simp at h,fun i _ _ j hj=>by omega,fun a h=>by simp at h,.inl ⟨rfl,fun a h=>by simp at h⟩,fun a b h=>by simp at h⟩
 have e:∀ i,i<r->dz c (M i) z=dz c (M0 i) z:=fun i hi=>zAW fun j hj=>by rw [h i j hi hj]
 exact ⟨fun h i hi=>(e i hi).trans (h i hi),fun h i hi=>(e i hi).symm.trans (h i hi)⟩
theorem Red.skip {r c k:Nat} {M0 M:Nat->Nat->Rat} {piv:List Int} (h:Red r c M0 M k piv) (hz:∀ i,piv.length<=i->i<r->M i k=0):Red r c M0 M (k+1) piv:=by
 refine ⟨h.ker,h.le,fun a ha=>by have:=h.lt a ha;omega,h.one,h.zero,fun i h1 h2 j hj=>?_,h.left,.inr ⟨k,by omega,fun a ha=>by have:=h.lt a ha;omega⟩,h.inc⟩
 by_cases e:j=k
 ·rw [e];exact hz i h1 h2
 ·exact h.low i h1 h2 j (by omega)
theorem nd_app {piv:List Int} {k a:Nat} :nd (piv ++ [(k:Int)]) a=if a<piv.length then nd piv a else if a=piv.length then k else 0:=by
 unfold nd
 rw [zG4]
 split
 ·rfl
 ·split
  ·rename_i h;rw [h,Nat.sub_self];rfl
  ·rw [zDS (by simp;omega)];rfl
theorem Red.step {r c k p:Nat} {M0 M:Nat->Nat->Rat} {piv:List Int} (h:Red r c M0 M k piv) (hk:k<c) (h1:piv.length<=p) (h2:p<r) (hn:M p k≠0) :
  Red r c M0 (elimM (divM (swapM M piv.length p) piv.length k) piv.length k) (k+1) (piv ++ [(k:Int)]):=by
 generalize hm:piv.length=m at *
 have hlt:=h.lt
 have hone:=h.one
 have hzero:=h.zero
 have hlow:=h.low
 have hleft:=h.left
 have hfull:=h.full
 have hinc:=h.inc
 rw [hm] at hlt hone hzero hlow hleft hfull hinc
 have hS:swapM M m p m=M p:=by funext j;simp [swapM]
 have hSk:swapM M m p m k≠0:=by rw [hS];exact hn
 have N:∀ j,divM (swapM M m p) m k m j=M p j / M p k:=fun j=>by simp [divM,swapM]
 have N':∀ i j,i≠m->divM (swapM M m p) m k i j=if i=p then M m j else M i j:=fun i j hi=>by simp [divM,swapM,hi]
 have hmr:m<r:=by omega
 have El:∀ j,elimM (divM (swapM M m p) m k) m k m j=M p j / M p k:=fun j=>by unfold elimM;rw [if_pos rfl,N]
 have El':∀ i j,i≠m->elimM (divM (swapM M m p) m k) m k i j=(if i=p then M m j else M i j) - (if i=p then M m k else M i k)*(M p j / M p k):=fun i j hi=>by unfold elimM;rw [if_neg hi,N,N' i j hi,N' i k hi]
 have hdiv:M p k / M p k=1:=by rw [Rat.div_def];exact Rat.mul_inv_cancel _ hn
 have zdiv:(0:Rat) / M p k=0:=by rw [Rat.div_def,Rat.zero_mul]
 have hlen:(piv ++ [(k:Int)]).length=m+1:=by simp [hm]
 have hnd:∀ a,a<m->nd (piv ++ [(k:Int)]) a=nd piv a:=fun a ha=>by rw [nd_app,if_pos (by omega)]
 have hndm:nd (piv ++ [(k:Int)]) m=k:=by rw [nd_app,if_neg (by omega),if_pos hm.symm]
 refine ⟨fun z=>?_,by omega,fun a ha=>?_,fun a ha=>?_,fun a ha i hi hne=>?_,fun i h3 h4 j hj=>?_,fun a ha j hj=>?_,?_,fun a b hb hab=>?_⟩
 ·rw [h.ker z,<- dz_swap (m:=m) (p:=p) hmr h2,<- dz_div hSk,dz_elim hmr]
 ·rw [hlen] at ha
  by_cases e:a=m
  ·subst e
   refine ⟨?_,by rw [hndm];omega⟩
   rw [zG4,if_neg (by omega),hm,Nat.sub_self]
   show (0:Int)<=(k:Int)
   omega
  ·refine ⟨?_,by rw [hnd a (by omega)];have:=(hlt a (by omega)).2;omega⟩
   rw [zG4,if_pos (by omega)];exact (hlt a (by omega)).1
 ·rw [hlen] at ha
  by_cases e:a=m
  ·subst e;rw [hndm,El];exact hdiv
  ·rw [hnd a (by omega),El' a _ e,if_neg (by omega),hzero a (by omega) p h2 (by omega),hone a (by omega),zdiv,Rat.mul_zero];grind
 ·rw [hlen] at ha
  by_cases e:a=m
  ·subst e;rw [hndm,El' i _ hne,hdiv,Rat.mul_one,Rat.sub_self]
  ·rw [hnd a (by omega)]
   by_cases e2:i=m
   ·subst e2;rw [El,hzero a (by omega) p h2 (by omega)];exact zdiv
   ·rw [El' i _ e2,hzero a (by omega) p h2 (by omega),zdiv,Rat.mul_zero]
    by_cases e3:i=p
    ·rw [if_pos e3,hzero a (by omega) m hmr (by omega)];grind
    ·rw [if_neg e3,hzero a (by omega) i hi hne];grind
 ·rw [hlen] at h3
  by_cases e:j=k
  ·subst e;rw [El' i _ (by omega),hdiv,Rat.mul_one,Rat.sub_self]
  ·rw [El' i _ (by omega),hlow p h1 h2 j (by omega),zdiv,Rat.mul_zero]
   by_cases e3:i=p
   ·rw [if_pos e3,hlow m (Nat.le_refl _) hmr j (by omega)];grind
   ·rw [if_neg e3,hlow i (by omega) h4 j (by omega)];grind
 ·rw [hlen] at ha
  by_cases e:a=m
  ·subst e;rw [hndm] at hj;rw [El,hlow p h1 h2 j hj];exact zdiv
  ·rw [hnd a (by omega)] at hj
   have:=(hlt a (by omega)).2
   rw [El' a _ e,if_neg (by omega),hleft a (by omega) j hj,hlow p h1 h2 j (by omega),zdiv,Rat.mul_zero];grind
 ·rcases hfull with ⟨e1,e2⟩ | ⟨f,e1,e2⟩
  ·refine .inl ⟨by omega,fun a ha=>?_⟩
   rw [hlen] at ha
   by_cases e:a=m
   ·subst e;rw [hndm];omega
   ·rw [hnd a (by omega)];exact e2 a (by omega)
  ·refine .inr ⟨f,by omega,fun a ha=>?_⟩
   rw [hlen] at ha
   by_cases e:a=m
   ·subst e;rw [hndm];omega
   ·rw [hnd a (by omega)];exact e2 a (by omega)
 ·rw [hlen] at hb
  by_cases e:b=m
  ·subst e;rw [hndm,hnd a hab];exact (hlt a hab).2
  ·rw [hnd b (by omega),hnd a (by omega)];exact hinc a b (by omega) hab
def augM (n:Nat) (m:Nat->Nat->Rat) (v:Nat->Rat):Nat->Nat->Rat:=fun i j=>if j=n then v i else m i j
theorem zIN (n:Nat) (m:Nat->Nat->Rat) (v:Nat->Rat) (i:Nat) (z:Nat->Rat):dz (n+1) (augM n m v i) z=dz n (m i) z+v i*z n:=by
 unfold dz augM
 rw [sm,if_pos rfl]
 congr 1
 exact zAW fun j hj=>by rw [if_neg (by omega)]
theorem Red.solved {n:Nat} {m:Nat->Nat->Rat} {v:Nat->Rat} {M:Nat->Nat->Rat} {piv:List Int} (h:Red n (n+1) (augM n m v) M n piv) (hl:piv.length=n) (x:Nat->Rat):(∀ i,i<n->dz n (m i) x=v i) ↔ (∀ i,i<n->x i=M i n):=by
 have hp:∀ a,a<n->nd piv a=a:=by
  rcases h.full with ⟨_,e⟩ | ⟨f,e1,e2⟩
  ·rw [hl] at e;exact e
  ·-- as many pivots as columns:none is free
   exfalso
   have hge:∀ a,a<piv.length->a<=nd piv a:=by
    intro a
    induction a with
    | zero=>intro _;omega
    | succ a ih=>intro ha;have:=h.inc a (a+1) ha (by omega);have:=ih (by omega);omega
   have heq:∀ d a,a+d+1=n->nd piv a<=a:=by
    intro d
    induction d with
    | zero=>intro a ha;have:=(h.lt a (by omega)).2;omega
    | succ d ih=>intro a ha;have:=ih (a+1) (by omega);have:=h.inc a (a+1) (by omega) (by omega);omega
   have h1:=heq (n - f - 1) f (by omega)
   have h2:=hge f (by omega)
   exact e2 f (by omega) (by omega)
 have key:=h.ker (fun j=>if j=n then -1 else x j)
 have e1:∀ i,dz (n+1) (augM n m v i) (fun j=>if j=n then -1 else x j)=dz n (m i) x - v i:=by
  intro i
  rw [zIN]
  simp only [if_pos]
  have:dz n (m i) (fun j=>if j=n then -1 else x j)=dz n (m i) x:=zAW fun j hj=>by dsimp only;rw [if_neg (by omega)]
  rw [this];grind
 have e2:∀ i,i<n->dz (n+1) (M i) (fun j=>if j=n then -1 else x j)=x i - M i n:=by
  intro i hi
  have hone:=h.one i (by omega)
  rw [hp i hi] at hone
  unfold dz
  rw [sm]
  dsimp only
  rw [if_pos rfl,zHZ hi (fun j hj hne=>?_),if_neg (by omega),hone]
  ·grind
  ·have:=h.zero j (by omega) i hi (by omega)
   rw [hp j hj] at this
   rw [this,Rat.zero_mul]
 constructor
 ·intro hs i hi
  have:=(key.1 fun i hi=>by rw [e1,hs i hi,Rat.sub_self]) i hi
  rw [e2 i hi] at this
  grind
 ·intro hs i hi
  have:=(key.2 fun i hi=>by rw [e2 i hi,hs i hi,Rat.sub_self]) i hi
  rw [e1] at this
  grind
theorem Red.free {n:Nat} {m:Nat->Nat->Rat} {v:Nat->Rat} {M:Nat->Nat->Rat} {piv:List Int} (h:Red n (n+1) (augM n m v) M n piv) (hl:piv.length<n):∃ z:Nat->Rat,(∃ f,f<n/\z f≠0)/\∀ i,i<n->dz n (m i) z=0:=by
 obtain ⟨f,hf,hfree⟩:∃ f,f<n/\∀ a,a<piv.length->nd piv a≠f:=by
  rcases h.full with ⟨e,_⟩ | e
  ·omega
  ·exact e
 let z:Nat->Rat:=fun j=>if j=f then 1 else if ∃ a,a<piv.length/\nd piv a=j then - M (Classical.epsilon fun a=>a<piv.length/\nd piv a=j) f else 0
 have hzf:z f=1:=by simp [z]
 have hinj:∀ a b,a<piv.length->b<piv.length->nd piv a=nd piv b->a=b:=by
  intro a b ha hb e
  rcases Nat.lt_trichotomy a b with c | c | c
  ·have:=h.inc a b hb c;omega
  ·exact c
  ·have:=h.inc b a ha c;omega
 have hzp:∀ a,a<piv.length->z (nd piv a)= - M a f:=by
  intro a ha
  have hex:∃ b,b<piv.length/\nd piv b=nd piv a:=⟨a,ha,rfl⟩
  have hch:=Classical.epsilon_spec hex
  simp only [z]
  rw [if_neg (hfree a ha),if_pos hex,hinj _ a hch.1 ha hch.2]
 have hz0:∀ j,j≠f->(∀ a,a<piv.length->nd piv a≠j)->z j=0:=by
  intro j h1 h2
  simp only [z]
  rw [if_neg h1,if_neg (fun ⟨a,h3,h4⟩=>h2 a h3 h4)]
 refine ⟨fun j=>if j=n then 0 else z j,⟨f,hf,by simp only;rw [if_neg (by omega),hzf];decide⟩,fun i hi=>?_⟩
 have hM:∀ i,i<n->dz (n+1) (M i) (fun j=>if j=n then 0 else z j)=0:=by
  intro i hi
  unfold dz
  rw [sm]
  dsimp only
  rw [if_pos rfl,Rat.mul_zero,Rat.add_zero]
  by_cases hip:i<piv.length
  ·have hlt:=(h.lt i hip).2
   rw [sm_two (k:=nd piv i) (m:=f) hlt hf (hfree i hip) (fun j hj h1 h2=>?_)]
   ·skip
    rw [if_neg (by omega),if_neg (by omega),hzp i hip,hzf,h.one i hip]
    grind
   ·rw [if_neg (by omega)]
    by_cases hj2:∃ a,a<piv.length/\nd piv a=j
    ·obtain ⟨a,ha,rfl⟩:=hj2
     rw [h.zero a ha i hi (fun e=>h1 (by rw [e])),Rat.zero_mul]
    ·rw [hz0 j h2 (fun a ha e=>hj2 ⟨a,ha,e⟩),Rat.mul_zero]
  ·exact zCz fun j hj=>by rw [h.low i (by omega) hi j hj,Rat.zero_mul]
 have:=(h.ker _).2 hM i hi
 rw [zIN,if_pos rfl,Rat.mul_zero,Rat.add_zero] at this
 exact this
def szR (s:Nat):Nat->Nat
 | 0=>s
 | k+1=>4*szR s k+1
theorem zG8 (s:Nat) {k n:Nat} (h:k<=n):szR s k<=szR s n:=by
 induction n with
 | zero=>rw [Nat.le_zero.1 h];exact Nat.le_refl _
 | succ n ih=>
  by_cases e:k=n+1
  ·rw [e];exact Nat.le_refl _
  ·have:=ih (by omega);rw [szR];omega
end Go.Proofs.Ytlmpoindlejefaa.E
namespace Go.Proofs.Ytlmpoindlejefaa.E
open Go Go.RowKit
section
variable {r c:Nat} {M:Nat->Nat->Rat} {Q:List Int×List (List zAD)->Prop}
theorem zIV {rows0:List (List zAD)} {N:Nat->Nat->Rat} {m p k:Nat} {C1:List (List zAD)×Int->W (Ctl (List (List zAD)×List Int×Int×Int) (List Int×List (List zAD)))} {C2:List Int×List (List zAD)->W (Ctl (List (List zAD)×List Int×Int×Int) (List Int×List (List zAD)))} {P:Ctl (List (List zAD)×List Int×Int×Int) (List Int×List (List zAD))->Prop} {s:Nat}
  (hrows:QM ((rows0.set m (gd rows0 p)).set p (gd rows0 m)) r c N) (hm:m<r) (hk:k<c) (hs:s<=8796093022208) (hN:∀ i j,i<r->j<c->Sz s (N i j)) (h0:N m k≠0) (H:∀ rows j,QM rows r c (divM N m k)->(C1 (rows,j)).run P) :
  (W.bind (W.loop (fun (s:(List (List zAD))×Int)=>zAO.l4 rows0 (m:Int) (p:Int) (k:Int) s.1 s.2) ((rows0.set m (gd rows0 p)).set p (gd rows0 m),0)) (Lp.on C1 C2)).run P:=by
 generalize hsw:(rows0.set m (gd rows0 p)).set p (gd rows0 m)=sw at *
 have hq:=(hrows.2 m hm).2 k hk
 have hlen:(gd sw m).length=c:=(hrows.2 m hm).1
 refine W.loop_c (fun s':List (List zAD)×Int=>∃ j:Nat,s'.2=j/\j<=c/\QM s'.1 r c (fun i j'=>if i=m/\j'<j then N m j' / N m k else N i j')) (fun s=>c - s.2.toNat) ⟨0,rfl,Nat.zero_le _,hrows.congr fun i j hi hj=>by rw [if_neg (by omega)]⟩ ?_
 rintro ⟨rows,_⟩ P1 ⟨j,rfl,hj,h1⟩ hgo hbrk hout
 simp only at h1 hgo |-
 have hrl:=h1.1
 have hrow:=h1.2 m hm
 unfold zAO.l4
 simp only [Int.toNat_natCast,zCI,hsw,hlen]
 refine W.run_if (fun c1=>?_) (fun c1=>hbrk _ (H _ _ (h1.congr fun i j' hi hj'=>?_)))
 ·have hcell:=hrow.2 j (by omega)
  simp only [Nat.lt_irrefl,and_false,if_false] at hcell
  have hrl2:=hrow.1
  refine W.req_i (by omega) (W.req_i (by omega) (W.req_i (by omega) (W.bd (zFV hcell hq ((hN m j hm (by omega)).ok hs) ((hN m k hm hk).ok hs) h0 fun z hz=>W.req_i (by omega) (hgo _ ⟨j+1,by simp,by omega,?_⟩ (by simp;omega))))))
  simp only [Int.toNat_natCast]
  refine (h1.set (hrow.set hz)).congr fun i j' hi hj'=>?_
  dsimp only
  by_cases e1:i=m
  ·subst e1
   by_cases e2:j'=j
   ·subst e2;simp
   ·have:(j'<j+1) ↔ (j'<j):=by omega
    simp [e2,this]
  ·simp [e1]
 ·obtain rfl:j=c:=by omega
  unfold divM
  by_cases e1:i=m
  ·subst e1;simp [hj']
  ·simp [e1]
theorem zHv {rows0:List (List zAD)} {N:Nat->Nat->Rat} {m k:Nat} {C1:List (List zAD)×Int->W (Ctl (List (List zAD)×List Int×Int×Int) (List Int×List (List zAD)))} {C2:List Int×List (List zAD)->W (Ctl (List (List zAD)×List Int×Int×Int) (List Int×List (List zAD)))} {P:Ctl (List (List zAD)×List Int×Int×Int) (List Int×List (List zAD))->Prop} {s:Nat}
  (hrows:QM rows0 r c N) (hm:m<r) (hk:k<c) (hs:s+s<=8796093022208) (hN:∀ i j,i<r->j<c->Sz s (N i j)) (H:∀ rows j,QM rows r c (elimM N m k)->(C1 (rows,j)).run P) :
  (W.bind (W.loop (fun (s:(List (List zAD))×Int)=>zAO.l2 rows0 (k:Int) (m:Int) s.1 s.2) (rows0,0)) (Lp.on C1 C2)).run P:=by
 refine W.loop_c (fun s':List (List zAD)×Int=>∃ i:Nat,s'.2=i/\i<=r/\QM s'.1 r c (fun i' j=>if i'<i then elimM N m k i' j else N i' j)) (fun s=>r - s.2.toNat) ⟨0,rfl,Nat.zero_le _,hrows.congr fun i j hi hj=>by rw [if_neg (by omega)]⟩ ?_
 rintro ⟨rows,_⟩ P1 ⟨i,rfl,hi,h1⟩ hgo hbrk hout
 simp only at h1 hgo |-
 have hrl:=h1.1
 have hr0:=hrows.1
 unfold zAO.l2
 simp only [zCI]
 refine W.run_if (fun c1=>?_) (fun c1=>hbrk _ (H _ _ (h1.congr fun i' j hi' hj=>by rw [if_pos (by omega)])))
 have hir:i<r:=by omega
 have hrow:=h1.2 i hir
 have hrl2:=hrow.1
 have hcell:=hrow.2 k hk
 dsimp only at hcell
 rw [if_neg (Nat.lt_irrefl _)] at hcell
 have keep:∀ rows':List (List zAD),QM rows' r c (fun i' j=>if i'<i+1 then elimM N m k i' j else N i' j)->(zAO.j6 (i:Int) rows').run P1:=fun rows' h=>hgo _ ⟨i+1,by simp,by omega,h⟩ (by simp;omega)
 refine W.req_i (by omega) (W.req_i (by omega) (W.run_if (fun c2=>?_) (fun c2=>keep _ (h1.congr fun i' j hi' hj=>?_))))
 ·refine W.bd (zDW hcell (W.run_if (fun c3=>keep _ (h1.congr fun i' j hi' hj=>?_)) (fun c3=>W.req_i (by omega) ?_)))
  ·have hz:=of_decide_eq_true c3
   by_cases e:i'=i
   ·subst e
    rw [if_neg (Nat.lt_irrefl _),if_pos (Nat.lt_succ_self _)]
    unfold elimM
    rw [if_neg (by omega),hz,Rat.zero_mul];grind
   ·have:(i'<i+1) ↔ (i'<i):=by omega
    simp only [this]
  ·refine W.loop_c (fun s':List (List zAD)×Int=>∃ j:Nat,s'.2=j/\j<=c/\QM s'.1 r c (fun i' j'=>if i'<i\/i'=i/\j'<j then elimM N m k i' j' else N i' j')) (fun s=>c - s.2.toNat) ⟨0,rfl,Nat.zero_le _,h1.congr fun i' j' hi' hj'=>?_⟩ ?_
   ·by_cases e:i'<i
    ·simp [e]
    ·simp [e]
   rintro ⟨rows2,_⟩ P2 ⟨j,rfl,hj,h2⟩ hgo2 hbrk2 hout2
   simp only at h2 hgo2 |-
   have hrl3:=h2.1
   have hrowi:=h2.2 i hir
   have hrowm:=h2.2 m hm
   have hli:=hrowi.1
   have hlm:=hrowm.1
   unfold zAO.l3
   simp only [zCI]
   refine W.run_if (fun c4=>?_) (fun c4=>hbrk2 _ (keep _ (h2.congr fun i' j' hi' hj'=>?_)))
   ·have hjc:j<c:=by omega
    have ci:=hrowi.2 j hjc
    have cm:=hrowm.2 j hjc
    have em:(if m<i\/m=i/\j<j then elimM N m k m j else N m j)=N m j:=by
     by_cases e:m<i
     ·rw [if_pos (.inl e)];unfold elimM;rw [if_pos rfl]
     ·rw [if_neg (by omega)]
    have ei:(if i<i\/i=i/\j<j then elimM N m k i j else N i j)=N i j:=by rw [if_neg (by omega)]
    dsimp only at ci cm
    rw [em] at cm
    rw [ei] at ci
    have s1:=hN i k hir hk
    have s2:=hN m j hm hjc
    have s3:=hN i j hir hjc
    refine W.req_i (by omega) (W.req_i (by omega) (W.req_i (by omega) (W.req_i (by omega) (W.req_i (by omega) (W.bd (zBh hcell cm (s1.ok (by omega)) (s2.ok (by omega)) fun x hx=>W.bd (zCS ci hx (s3.ok (by omega)) ((s1.mul s2).ok hs) fun z hz=>W.req_i (by omega) (hgo2 _ ⟨j+1,by simp,by omega,?_⟩ (by simp;omega))))))))) 
    simp only [Int.toNat_natCast]
    refine (h2.set (hrowi.set hz)).congr fun i' j' hi' hj'=>?_
    dsimp only
    by_cases e1:i'=i
    ·subst e1
     by_cases e2:j'=j
     ·subst e2
      simp only [if_true,Nat.lt_irrefl,false_or,true_and,Nat.lt_succ_self]
      unfold elimM
      rw [if_neg (by omega)]
     ·have:(j'<j+1) ↔ (j'<j):=by omega
      rw [if_pos rfl,if_neg e2]
      simp only [this]
    ·rw [if_neg e1]
     simp only [e1,false_and,or_false]
   ·obtain rfl:j=c:=by omega
    by_cases e:i'=i
    ·subst e;simp [hj']
    ·have:(i'<i+1) ↔ (i'<i):=by omega
     simp [e,this]
 ·have e0:i=m:=by omega
  by_cases e:i'=i
  ·subst e
   rw [if_neg (Nat.lt_irrefl _),if_pos (Nat.lt_succ_self _)]
   unfold elimM
   rw [if_pos e0,e0]
  ·have:(i'<i+1) ↔ (i'<i):=by omega
   simp only [this]
theorem zI0 {r c s m k:Nat} {N:Nat->Nat->Rat} (hm:m<r) (hk:k<c) (hN:∀ i j,i<r->j<c->Sz s (N i j)) (h0:N m k≠0):∀ i j,i<r->j<c->Sz (s+s) (divM N m k i j):=by
 intro i j hi hj
 unfold divM
 split
 ·exact (hN m j hm hj).div (hN m k hm hk) h0
 ·exact (hN i j hi hj).mono (by omega)
theorem step_sz {r c s m p k:Nat} {M:Nat->Nat->Rat} (hm:m<r) (hp:p<r) (hk:k<c) (hM:∀ i j,i<r->j<c->Sz s (M i j)) (h0:M p k≠0):∀ i j,i<r->j<c->Sz (4*s+1) (elimM (divM (swapM M m p) m k) m k i j):=by
 have hS:∀ i j,i<r->j<c->Sz s (swapM M m p i j):=by
  intro i j hi hj
  unfold swapM
  split
  ·exact hM p j hp hj
  ·split
   ·exact hM m j hm hj
   ·exact hM i j hi hj
 have hSk:swapM M m p m k≠0:=by unfold swapM;rw [if_pos rfl];exact h0
 have hD:=zI0 hm hk hS hSk
 intro i j hi hj
 unfold elimM
 split
 ·exact (hD m j hm hj).mono (by omega)
 ·rename_i e
  have e1:∀ j,divM (swapM M m p) m k i j=swapM M m p i j:=fun j=>by unfold divM;rw [if_neg e]
  rw [e1,e1]
  exact ((hS i j hi hj).sub ((hS i k hi hk).mul (hD m j hm hj))).mono (by omega)
structure Grows (r c n t:Nat) (Z:Nat->(Nat->Nat->Rat)->Prop):Prop where
 sz:∀ {k N},k<=n->Z k N->∀ i j,i<r->j<c->Sz t (N i j)
 skip:∀ {k N},k<n->Z k N->Z (k+1) N
 step:∀ {k m p N},k<n->m<r->p<r->k<c->Z k N->N p k≠0->Z (k+1) (elimM (divM (swapM N m p) m k) m k)
theorem Grows.szR {r c n s:Nat} :Grows r c n (szR s n) (fun k N=>∀ i j,i<r->j<c->Sz (szR s k) (N i j)) where
 sz hk h i j hi hj:=(h i j hi hj).mono (zG8 s hk)
 skip _ h i j hi hj:=(h i j hi hj).mono (zG8 s (Nat.le_succ _))
 step _ hm hp hk h h0:=step_sz hm hp hk h h0
theorem zE1 {Z:Nat->(Nat->Nat->Rat)->Prop} {t:Nat} {rows:List (List zAD)} {n:Nat} (hrows:QM rows r c M) (hn:n<=c) (hc:c<=1000000) (hr:r<=1000000) (ht:4*t<=8796093022208) (hM:Z 0 M) (hZ:Grows r c n t Z) (H:∀ piv rows' M',QM rows' r c M'->Red r c M M' n piv->Z n M'->Q (piv,rows')):(zAO.f rows (n:Int)).run Q:=by
 unfold zAO.f
 refine W.loop_c (fun s':List (List zAD)×List Int×Int×Int=>∃ (k:Nat) (M':Nat->Nat->Rat),s'.2.2.2=k/\k<=n/\s'.2.2.1=s'.2.1.length/\QM s'.1 r c M'/\Red r c M M' k s'.2.1/\Z k M') (fun s=>n - s.2.2.2.toNat) ⟨0,M,rfl,Nat.zero_le _,rfl,hrows,Red.init fun _ _ _ _=>rfl,hM⟩ ?_
 rintro ⟨rows1,piv,at_,_⟩ P ⟨k,M1,rfl,hk,hat,h1,h2,h3⟩ hgo hbrk hout
 simp only at h1 h2 h3 hgo hat |-
 subst hat
 unfold zAO.l1
 refine W.run_if (fun c1=>?_) (fun c1=>hbrk _ (by
  obtain rfl:k=n:=by omega
  exact H _ _ _ h1 h2 h3))
 have hkc:k<c:=by omega
 have hrl:=h1.1
 have hple:=h2.le
 refine W.loop_c (fun p':Int=>∃ p:Nat,p'=p/\piv.length<=p/\p<=r/\∀ i,piv.length<=i->i<p->M1 i k=0) (fun p=>r - p.toNat) ⟨piv.length,rfl,Nat.le_refl _,hple,fun i h4 h5=>by omega⟩ ?_
 rintro _ P1 ⟨p,rfl,hp1,hp2,hp3⟩ hgo1 hbrk1 hout1
 unfold zAO.l5
 simp only [zCI]
 have skip:p=r->(zAO.j3 rows1 (k:Int) piv (piv.length:Int) (p:Int)).run P:=by
  intro e
  subst e
  unfold zAO.j3
  rw [if_pos (by omega)]
  refine hgo _ ⟨k+1,M1,by simp,by omega,rfl,h1,h2.skip hp3,hZ.skip (by omega) h3⟩ (by simp;omega)
 refine W.run_if (fun c2=>?_) (fun c2=>hbrk1 _ (skip (by omega)))
 have hpr:p<r:=by omega
 have hrow:=h1.2 p hpr
 have hl2:=hrow.1
 refine W.req_i (by omega) (W.req_i (by omega) (W.bd (zDW (hrow.2 k hkc) (W.run_if (fun c3=>hgo1 _ ⟨p+1,by simp,by omega,by omega,fun i h4 h5=>?_⟩ (by simp;omega)) (fun c3=>hbrk1 _ ?_)))))
 ·by_cases e:i=p
  ·rw [e];exact of_decide_eq_true c3
  ·exact hp3 i h4 (by omega)
 have hnz:M1 p k≠0:=fun e=>c3 (decide_eq_true e)
 have hm:piv.length<r:=by omega
 have hsw:QM ((rows1.set piv.length (gd rows1 p)).set p (gd rows1 piv.length)) r c (swapM M1 piv.length p):=by
  refine ((h1.set (h1.2 p hpr)).set (h1.2 piv.length hm)).congr fun i j hi hj=>?_
  unfold swapM
  by_cases e:i=p
  ·subst e
   by_cases e2:i=piv.length
   ·rw [if_pos rfl,if_pos e2,<- e2]
   ·rw [if_pos rfl,if_neg e2,if_pos rfl]
  ·rw [if_neg e]
   by_cases e2:i=piv.length
   ·rw [if_pos e2,if_pos e2]
   ·rw [if_neg e2,if_neg e2,if_neg e]
 have hswk:swapM M1 piv.length p piv.length k≠0:=by unfold swapM;rw [if_pos rfl];exact hnz
 have h3':=hZ.sz hk h3
 have hszS:∀ i j,i<r->j<c->Sz t (swapM M1 piv.length p i j):=by
  intro i j hi hj
  unfold swapM
  split
  ·exact h3' p j hpr hj
  ·split
   ·exact h3' _ j hm hj
   ·exact h3' i j hi hj
 unfold zAO.j3
 rw [if_neg (by omega)]
 simp only [Int.toNat_natCast,zCI]
 have hlm:=(hsw.2 piv.length hm).1
 have hll:=hsw.1
 refine W.req_i (by omega) (W.req_i (by omega) (W.req_i (by omega) (W.req_i (by omega) (W.req_i (by omega) (W.req_i (by omega) (W.req_i (by omega) ?_))))))
 refine zIV hsw hm hkc (by omega) hszS hswk fun rows2 _ hr2=>?_
 unfold zAO.j4
 simp only
 refine zHv (s:=t+t) hr2 hm hkc (by omega) (zI0 hm hkc hszS hswk) fun rows3 _ hr3=>?_
 unfold zAO.j5 zAO.j2
 simp only
 refine W.req_i (by omega) (W.req_i (by show _/\_;omega) (hgo _ ⟨k+1,_,by simp,by omega,by simp,hr3,h2.step hkc hp1 hpr hnz,hZ.step (by omega) hm hpr hkc h3 hnz⟩ (by simp;omega)))
end
end Go.Proofs.Ytlmpoindlejefaa.E
namespace Go.Proofs.Ytlmpoindlejefaa.E
open Go Go.RowKit
theorem zDU {l:List zAD} {Q:List zAD->Prop} (hl:l.length<=1000000) (H:Q l):(zBX.f l).run Q:=by
 unfold zBX.f
 intro b hb
 refine W.run_if (fun c=>?_) (fun c=>W.req_i (by simp;omega) (by simpa [W.ret_r] using H))
 rw [W.ret_r,<- hb c]
 exact H
theorem zDd {n:Nat} {Q:List zAD->Prop} (hn:n<=1000000) (H:∀ l,QL l n (fun _=>0)->Q l):(zBn.f (n:Int)).run Q:=by
 unfold zBn.f
 rw [Int.toNat_natCast]
 refine W.req_i (by omega) ?_
 refine W.loop_c (fun s:List zAD×Int=>∃ i:Nat,s.2=i/\i<=n/\s.1.length=n/\∀ j,j<i->QRep (gd s.1 j) 0) (fun s=>n - s.2.toNat) ⟨0,rfl,Nat.zero_le _,by simp,fun j hj=>by omega⟩ ?_
 rintro ⟨l,_⟩ P ⟨i,rfl,hi,h1,h2⟩ hgo hbrk hout
 simp only at h1 h2 hgo |-
 unfold zBn.l1
 rw [Int.toNat_natCast,List.length_replicate]
 refine W.run_if (fun c=>W.bd (zCr (by show _/\_;omega) fun z hz=>W.req_i (by omega) (hgo _ ⟨i+1,by simp,by omega,by simp [h1],fun j hj=>?_⟩ (by simp;omega)))) (fun c=>hbrk _ (H _ ⟨h1,fun j hj=>h2 j (by omega)⟩))
 simp only [Int.toNat_natCast]
 rw [zCX]
 by_cases e:i=j
 ·subst e;rw [if_pos ⟨rfl,by omega⟩];simpa using hz
 ·rw [if_neg (by omega)];exact h2 j (by omega)
theorem zFy {n:Nat} {Q:zAc->Prop} (hn:n<=1000000) (H:∀ S:zAc,S.n=n->QM S.m n n (fun _ _=>0)->QL S.v n (fun _=>0)->QRep S.q 0->Q S):(zCT.f (n:Int)).run Q:=by
 unfold zCT.f
 refine W.bd (zCr (by show _/\_;omega) fun z hz=>?_)
 refine W.loop_c (fun s:Int×List (List zAD)×List zAD×zAD×Int=>∃ i:Nat,s.2.2.2.2=i/\i<=n/\s.1=n/\QM s.2.1 i n (fun _ _=>0)/\s.2.2.2.1=z) (fun s=>n - s.2.2.2.2.toNat) ⟨0,rfl,Nat.zero_le _,rfl,⟨rfl,fun i hi=>by omega⟩,rfl⟩ ?_
 rintro ⟨_,m,v,q,_⟩ P ⟨i,rfl,hi,rfl,h1,rfl⟩ hgo hbrk hout
 simp only at h1 hgo |-
 have hl:=h1.1
 unfold zCT.l1
 refine W.run_if (fun c=>W.bd (zDd hn fun l hl2=>W.req_i (by omega) (hgo _ ⟨i+1,by simp,by omega,rfl,⟨by simp [hl],fun j hj=>?_⟩,rfl⟩ (by simp;omega)))) (fun c=>hbrk _ ?_)
 ·simp only
  rw [zGf,hl]
  by_cases e:j<i
  ·rw [if_pos e];exact h1.2 j e
  ·rw [if_neg e,show j - i=0 by omega];exact hl2
 ·obtain rfl:i=n:=by omega
  exact W.bd (zDd hn fun l hl2=>H _ rfl h1 hl2 (by simpa using hz))
theorem zEW {S:zAc} {row:List zAD} {x2:zAD} {n s t:Nat} {A:Nat->Nat->Rat} {V R:Nat->Rat} {q y:Rat} {Q:zAc->Prop} (hn:S.n=n) (hn2:n<=1000000) (hm:QM S.m n n A) (hv:QL S.v n V) (hq:QRep S.q q) (hr:QL row n R) (hy:QRep x2 y)
  (hs:s<=8796093022208) (ht:t+t<=8796093022208) (sA:∀ i k,i<n->k<n->Sz s (A i k)) (sV:∀ i,i<n->Sz s (V i)) (sq:Sz s q) (sR:∀ i,i<n->Sz t (R i)) (sy:Sz t y)
  (H:∀ S':zAc,S'.n=n->QM S'.m n n (fun i k=>A i k+R i*R k)->QL S'.v n (fun i=>V i+R i*y)->QRep S'.q (q+y*y)->Q S'):(zAY.f S row x2).run Q:=by
 have hrl:=hr.1
 unfold zAY.f
 refine W.loop_c (fun s':List (List zAD)×List zAD×Int=>∃ i:Nat,s'.2.2=i/\i<=n/\QM s'.1 n n (fun i' k=>if i'<i then A i' k+R i'*R k else A i' k)/\QL s'.2.1 n (fun i'=>if i'<i then V i'+R i'*y else V i')) (fun s=>n - s.2.2.toNat) ⟨0,rfl,Nat.zero_le _,hm.congr fun i k _ _=>by rw [if_neg (by omega)],hv.congr fun i _=>by rw [if_neg (by omega)]⟩ ?_
 rintro ⟨m,v,_⟩ P ⟨i,rfl,hi,h1,h2⟩ hgo hbrk hout
 simp only at h1 h2 hgo |-
 have hml:=h1.1
 have hvl:=h2.1
 unfold zAY.l1
 rw [hn]
 refine W.run_if (fun c=>?_) (fun c=>hbrk _ ?_)
 ·have hin:i<n:=by omega
  refine W.loop_c (fun s':List (List zAD)×Int=>∃ k:Nat,s'.2=k/\k<=n/\QM s'.1 n n (fun i' k'=>if i'<i\/i'=i/\k'<k then A i' k'+R i'*R k' else A i' k')) (fun s=>n - s.2.toNat) ⟨0,rfl,Nat.zero_le _,h1.congr fun i' k' _ _=>by by_cases e:i'<i <;> simp [e]⟩ ?_
  rintro ⟨m2,_⟩ P2 ⟨k,rfl,hk,h3⟩ hgo2 hbrk2 hout2
  simp only at h3 hgo2 |-
  have hml2:=h3.1
  have hrow:=h3.2 i hin
  have hrl2:=hrow.1
  unfold zAY.l2
  simp only [hn,zCI,Int.toNat_natCast]
  refine W.run_if (fun c2=>?_) (fun c2=>hbrk2 _ ?_)
  ·have hkn:k<n:=by omega
   have hcell:=hrow.2 k hkn
   dsimp only at hcell
   rw [if_neg (by omega)] at hcell
   refine W.req_i (by omega) (W.req_i (by omega) (W.req_i (by omega) (W.req_i (by omega) (W.req_i (by omega) (W.bd (zBh (hr.2 i hin) (hr.2 k hkn) ((sR i hin).ok (by omega)) ((sR k hkn).ok (by omega)) fun x hx=>W.bd (zCB hcell hx ((sA i k hin hkn).ok hs) (((sR i hin).mul (sR k hkn)).ok ht) fun z hz=>W.req_i (by omega) (hgo2 _ ⟨k+1,by simp,by omega,?_⟩ (by simp;omega)))))))))
   refine (h3.set (hrow.set hz)).congr fun i' k' _ _=>?_
   dsimp only
   by_cases e1:i'=i
   ·subst e1
    by_cases e2:k'=k
    ·subst e2;simp
    ·have:(k'<k+1) ↔ (k'<k):=by omega
     rw [if_pos rfl,if_neg e2]
     simp only [this]
   ·rw [if_neg e1]
    simp only [e1,false_and,or_false]
  ·obtain rfl:k=n:=by omega
   unfold zAY.j3 zAY.j2
   simp only [zCI,Int.toNat_natCast]
   have hcell:=h2.2 i hin
   dsimp only at hcell
   rw [if_neg (Nat.lt_irrefl _)] at hcell
   refine W.req_i (by omega) (W.req_i (by omega) (W.bd (zBh (hr.2 i hin) hy ((sR i hin).ok (by omega)) (sy.ok (by omega)) fun x hx=>W.bd (zCB hcell hx ((sV i hin).ok hs) (((sR i hin).mul sy).ok ht) fun z hz=>W.req_i (by omega) (hgo _ ⟨i+1,by simp,by omega,h3.congr fun i' k' _ hk'=>?_,(h2.set hz).congr fun i' _=>?_⟩ (by simp;omega))))))
   ·by_cases e:i'=i
    ·subst e;simp [hk']
    ·have:(i'<i+1) ↔ (i'<i):=by omega
     simp [e,this]
   ·skip
    by_cases e:i'=i
    ·subst e;simp
    ·have:(i'<i+1) ↔ (i'<i):=by omega
     simp [e,this]
 ·obtain rfl:i=n:=by omega
  unfold zAY.j1
  refine W.bd (zBh hy hy (sy.ok (by omega)) (sy.ok (by omega)) fun x hx=>W.bd (zCB hq hx (sq.ok hs) ((sy.mul sy).ok ht) fun z hz=>H _ hn ?_ ?_ hz))
  ·exact h1.congr fun i' k' hi' _=>by rw [if_pos hi']
  ·exact h2.congr fun i' hi'=>by rw [if_pos hi']
theorem zFb {Z:Nat->(Nat->Nat->Rat)->Prop} {t0:Nat} {m:List (List zAD)} {v:List zAD} {n:Nat} {A:Nat->Nat->Rat} {V:Nat->Rat} {Q:List zAD×Bool->Prop} (hm:QM m n n A) (hv:QL v n V) (hn:n<=999999) (ht0:4*t0<=8796093022208) (hZ0:Z 0 (augM n A V)) (hZ:Grows n (n+1) n t0 Z)
  (H1:∀ out x,QL out n x->(∀ y,(∀ i,i<n->dz n (A i) y=V i) ↔ ∀ i,i<n->y i=x i)->(∃ M',Z n M'/\∀ i,i<n->x i=M' i n)->Q (out,true))
  (H2:∀ z:Nat->Rat,(∃ f,f<n/\z f≠0)->(∀ i,i<n->dz n (A i) z=0)->Q ([],false)):(zAw.f m v).run Q:=by
 have hml:=hm.1
 have hvl:=hv.1
 unfold zAw.f
 rw [hml,Int.toNat_natCast]
 refine W.req_i (by omega) ?_
 refine W.loop_c (fun s':List (List zAD)×Int=>∃ i:Nat,s'.2=i/\i<=n/\s'.1.length=n/\∀ i',i'<i->QL (gd s'.1 i') (n+1) (augM n A V i')) (fun s=>n - s.2.toNat) ⟨0,rfl,Nat.zero_le _,by simp,fun i hi=>by omega⟩ ?_
 rintro ⟨rows,_⟩ P ⟨i,rfl,hi,h1,h2⟩ hgo hbrk hout
 simp only at h1 h2 hgo |-
 unfold zAw.l2
 simp only [hml,zCI,Int.toNat_natCast]
 refine W.run_if (fun c=>?_) (fun c=>hbrk _ ?_)
 ·have hin:i<n:=by omega
  have hrow:=hm.2 i hin
  have hrl:=hrow.1
  refine W.req_i (by omega) (W.req_i (by omega) (W.bd (zDU (by omega) (W.req_i (by omega) (W.req_i (by omega) (hgo _ ⟨i+1,by simp,by omega,by simp [h1],fun i' hi'=>?_⟩ (by simp;omega)))))))
  rw [zCX]
  by_cases e:i=i'
  ·subst e
   rw [if_pos ⟨rfl,by omega⟩]
   exact hrow.snoc (hv.2 i hin)
  ·rw [if_neg (by omega)];exact h2 i' (by omega)
 obtain rfl:i=n:=by omega
 have hrows:QM rows i (i+1) (augM i A V):=⟨h1,h2⟩
 unfold zAw.j1
 rw [hml]
 refine W.bd (zE1 hrows (by omega) (by omega) (by omega) ht0 hZ0 hZ fun piv rows' M' r1 r2 r3=>?_)
 simp only [Int.toNat_natCast]
 have hle:=r2.le
 refine W.run_if (fun c2=>?_) (fun c2=>W.req_i (by omega) ?_)
 ·obtain ⟨z,hz1,hz2⟩:=r2.free (by omega)
  exact H2 z hz1 hz2
 have hpl:piv.length=i:=by omega
 have hrl:=r1.1
 refine W.loop_c (fun s':List zAD×Int=>∃ j:Nat,s'.2=j/\j<=i/\s'.1.length=i/\∀ j',j'<j->QRep (gd s'.1 j') (M' j' i)) (fun s=>i - s.2.toNat) ⟨0,rfl,Nat.zero_le _,by simp,fun j hj=>by omega⟩ ?_
 rintro ⟨out,_⟩ P2 ⟨j,rfl,hj,k1,k2⟩ hgo2 hbrk2 hout2
 simp only at k1 k2 hgo2 |-
 unfold zAw.l1
 simp only [hml,zCI,Int.toNat_natCast]
 refine W.run_if (fun c3=>?_) (fun c3=>hbrk2 _ ?_)
 ·have hji:j<i:=by omega
  have hrow:=r1.2 j hji
  have hrl2:=hrow.1
  refine W.req_i (by omega) (W.req_i (by omega) (W.req_i (by omega) (hgo2 _ ⟨j+1,by simp,by omega,by simp [k1],fun j' hj'=>?_⟩ (by simp;omega))))
  rw [zCX]
  by_cases e:j=j'
  ·subst e
   rw [if_pos ⟨rfl,by omega⟩]
   exact hrow.2 i (by omega)
  ·rw [if_neg (by omega)];exact k2 j' (by omega)
 ·obtain rfl:j=i:=by omega
  exact H1 _ (fun a=>M' a j) ⟨k1,k2⟩ (fun y=>r2.solved hpl y) ⟨M',r3,fun _ _=>rfl⟩
theorem zEO {m:List (List zAD)} {v:List zAD} {n s:Nat} {A:Nat->Nat->Rat} {V:Nat->Rat} {Q:List zAD×Bool->Prop} (hm:QM m n n A) (hv:QL v n V) (hn:n<=999999) (hs:4*szR s n+1<=8796093022208) (sA:∀ i k,i<n->k<n->Sz s (A i k)) (sV:∀ i,i<n->Sz s (V i))
  (H1:∀ out x,QL out n x->(∀ y,(∀ i,i<n->dz n (A i) y=V i) ↔ ∀ i,i<n->y i=x i)->(∀ i,i<n->Sz (szR s n) (x i))->Q (out,true))
  (H2:∀ z:Nat->Rat,(∃ f,f<n/\z f≠0)->(∀ i,i<n->dz n (A i) z=0)->Q ([],false)):(zAw.f m v).run Q:=
 zFb (Z:=fun k N=>∀ i j,i<n->j<n+1->Sz (szR s k) (N i j)) hm hv hn (by omega) (fun a k ha hk=>by
  unfold augM
  split
  ·exact sV a ha
  ·exact sA a k ha (by omega)) Grows.szR (fun out x h1 h2 ⟨M',h3,h4⟩=>H1 out x h1 h2 fun i hi=>by rw [h4 i hi];exact h3 i n hi (by omega)) H2
end Go.Proofs.Ytlmpoindlejefaa.E
namespace Go.Proofs.Ytlmpoindlejefaa.E
open Go Go.RowKit
def lineOf (n:Nat) (X Y:Nat->Rat):Option (Rat×Rat):=
 let d:=(n:Rat)*sm n (fun i=>X i*X i) - sm n X*sm n X
 if d=0 then none
 else
  let a:=((n:Rat)*sm n (fun i=>X i*Y i) - sm n X*sm n Y) / d
  some (a,(sm n Y - a*sm n X) / n)
def toldLine:Option (Rat×Rat)->zAC×zAC×Int
 | none=>(⟨0,0⟩,⟨0,0⟩,4)
 | some (a,b)=>if (toldR a).2=true/\(toldR b).2=true then ((toldR a).1,(toldR b).1,0) else (⟨0,0⟩,⟨0,0⟩,3)
def lineSpec (x y:List zAC):zAC×zAC×Int:=
 if ¬ (∀ r ∈ x,valid r) then (⟨0,0⟩,⟨0,0⟩,1)
 else if ¬ (∀ r ∈ y,valid r) then (⟨0,0⟩,⟨0,0⟩,1)
 else if (x.length:Int)>64 then (⟨0,0⟩,⟨0,0⟩,3)
 else if (y.length:Int)>64 then (⟨0,0⟩,⟨0,0⟩,3)
 else if (x.length:Int)≠(y.length:Int) then (⟨0,0⟩,⟨0,0⟩,8)
 else toldLine (lineOf x.length (fun i=>ratOf (gd x i)) (fun i=>ratOf (gd y i)))
theorem Sz.one:Sz 1 1:=⟨by decide,by decide⟩
theorem line_two {sxx sx n sxy sy:Rat} {x:Nat->Rat} (h:∀ y:Nat->Rat,(sxx*y 0+sx*y 1=sxy/\sx*y 0+n*y 1=sy) ↔ (y 0=x 0/\y 1=x 1)) (hn:n≠0) (hd:n*sxx - sx*sx≠0):x 0=(n*sxy - sx*sy) / (n*sxx - sx*sx)/\x 1=(sy - (n*sxy - sx*sy) / (n*sxx - sx*sx)*sx) / n:=by
 have e:=(h x).2 ⟨rfl,rfl⟩
 have h1:(n*sxx - sx*sx)*x 0=n*sxy - sx*sy:=by grind
 have h2:x 0=(n*sxy - sx*sy) / (n*sxx - sx*sx):=by
  rw [<- h1,Rat.mul_comm,Rat.mul_div_cancel hd]
 refine ⟨h2,?_⟩
 rw [<- h2]
 have h3:n*x 1=sy - x 0*sx:=by grind
 rw [<- h3,Rat.mul_comm,Rat.mul_div_cancel hn]
section
variable {x y:List zAC} {Q:zAC×zAC×Int->Prop}
theorem zG5 (f z:Nat->Rat):dz 2 f z=f 0*z 0+f 1*z 1:=by
 show 0+f 0*z 0+f 1*z 1=_
 grind
theorem zHp (lx:x.length<=281474976710656) (ly:y.length<=281474976710656) (H:Q (lineSpec x y)):(zCU.f x y).run Q:=by
 unfold lineSpec at H
 unfold zCU.f
 refine W.bd (zBs lx (W.run_if (fun c=>?_) (fun c=>by
  have c:=of_decide_eq_false (Bool.eq_false_iff.2 c)
  rwa [if_pos c] at H)))
 have vx:=of_decide_eq_true c
 rw [if_neg (fun h=>h vx)] at H
 refine W.bd (zBs ly (W.run_if (fun c=>?_) (fun c=>by
  have c:=of_decide_eq_false (Bool.eq_false_iff.2 c)
  rwa [if_pos c] at H)))
 have vy:=of_decide_eq_true c
 rw [if_neg (fun h=>h vy)] at H
 refine W.run_if (fun c=>by rwa [if_pos c] at H) (fun c1=>?_)
 rw [if_neg c1] at H
 refine W.run_if (fun c=>by rwa [if_pos c] at H) (fun c2=>?_)
 rw [if_neg c2] at H
 refine W.run_if (fun c=>by rwa [if_pos c] at H) (fun c3=>?_)
 rw [if_neg c3] at H
 have vx:=(zAv x).1 vx
 have vy:=(zAv y).1 vy
 have hxy:x.length=y.length:=by omega
 generalize hX:(fun i=>ratOf (gd x i))=X at H
 generalize hY:(fun i=>ratOf (gd y i))=Y at H
 have eX:∀ i,ratOf (gd x i)=X i:=fun i=>congrFun hX i
 have eY:∀ i,ratOf (gd y i)=Y i:=fun i=>congrFun hY i
 have sX:∀ i,i<x.length->Sz 40 (X i):=fun i hi=>eX i ▸ (vx i hi).sz
 have sY:∀ i,i<x.length->Sz 40 (Y i):=fun i hi=>eY i ▸ (vy i (by omega)).sz
 let R:Nat->Nat->Rat:=fun j a=>if a=0 then X j else 1
 have sR:∀ j a,j<x.length->Sz 40 (R j a):=fun j a hj=>by
  simp only [R]
  split
  ·exact sX j hj
  ·exact Sz.one.mono (by omega)
 refine W.bd (zFy (n:=2) (by omega) fun S hS1 hS2 hS3 hS4=>?_)
 refine W.loop_c (fun s:Int×List (List zAD)×List zAD×zAD×Int=>∃ i:Nat,s.2.2.2.2=i/\i<=x.length/\s.1=(2:Nat)/\QM s.2.1 2 2 (fun a b=>sm i (fun j=>R j a*R j b))/\QL s.2.2.1 2 (fun a=>sm i (fun j=>R j a*Y j))/\QRep s.2.2.2.1 (sm i (fun j=>Y j*Y j))) (fun s=>x.length - s.2.2.2.2.toNat) ⟨0,rfl,Nat.zero_le _,hS1,hS2,hS3,hS4⟩ ?_
 rintro ⟨_,m,v,q,_⟩ P ⟨i,rfl,hi,rfl,h1,h2,h3⟩ hgo hbrk hout
 simp only at h1 h2 h3 hgo |-
 have szG:∀ a b,Sz 5185 (sm i (fun j=>R j a*R j b)):=fun a b=>(Sz.sm (s:=80) fun j hj=>(sR j a (by omega)).mul (sR j b (by omega))).mono (by omega)
 have szV:∀ a,Sz 5185 (sm i (fun j=>R j a*Y j)):=fun a=>(Sz.sm (s:=80) fun j hj=>(sR j a (by omega)).mul (sY j (by omega))).mono (by omega)
 unfold zCU.l1
 simp only [zCI]
 refine W.run_if (fun c=>?_) (fun c=>hbrk _ ?_)
 ·refine W.req_i (by omega) (W.req_i (by omega) (W.bd (zFm (vx i (by omega)) fun a ha=>W.bd (zCr (n:=1) (by show _/\_;omega) fun b hb=>W.bd (zFm (vy i (by omega)) fun d hd=>W.bd ?_)))))
  rw [eX] at ha
  rw [eY] at hd
  have hrow:QL [a,b] 2 (R i):=by
   refine ⟨rfl,fun j hj=>?_⟩
   rcases (show j=0\/j=1 by omega) with rfl | rfl
   ·exact ha
   ·exact hb
  refine zEW (n:=2) (s:=5185) (t:=40) (A:=fun a b=>sm i (fun j=>R j a*R j b)) (V:=fun a=>sm i (fun j=>R j a*Y j)) rfl (by omega) h1 h2 h3 hrow hd (by omega) (by omega) (fun a b _ _=>szG a b) (fun a _=>szV a) ?_ (fun a _=>sR i a (by omega)) (sY i (by omega)) fun S' k1 k2 k3 k4=>hgo _ ⟨i+1,by simp,by omega,k1,k2,k3,k4⟩ (by simp;omega)
  exact (Sz.sm (s:=80) fun j hj=>(sY j (by omega)).mul (sY j (by omega))).mono (by omega)
 obtain rfl:i=x.length:=by omega
 unfold zCU.j1
 simp only
 have g00:sm x.length (fun j=>R j 0*R j 0)=sm x.length (fun i=>X i*X i):=zAW fun j _=>by simp [R]
 have g01:sm x.length (fun j=>R j 0*R j 1)=sm x.length X:=zAW fun j _=>by simp [R]
 have g10:sm x.length (fun j=>R j 1*R j 0)=sm x.length X:=zAW fun j _=>by simp [R]
 have g11:sm x.length (fun j=>R j 1*R j 1)=(x.length:Rat):=by
  have:∀ n:Nat,sm n (fun j=>R j 1*R j 1)=(n:Rat):=by
   intro n
   induction n with
   | zero=>rfl
   | succ n ih=>rw [sm,ih,Rat.natCast_add];simp [R]
  exact this _
 have gv0:sm x.length (fun j=>R j 0*Y j)=sm x.length (fun i=>X i*Y i):=zAW fun j _=>by simp [R]
 have gv1:sm x.length (fun j=>R j 1*Y j)=sm x.length Y:=zAW fun j _=>by simp [R]
 unfold lineOf at H
 simp only at H
 refine W.bd (zEO (n:=2) (s:=5185) h1 h2 (by omega) (by simp only [szR];omega) (fun a b _ _=>szG a b) (fun a _=>szV a) (fun out z k1 k2 k3=>?_) (fun z k1 k2=>?_))
 ·rw [if_pos rfl]
  have k2':∀ w:Nat->Rat,(sm x.length (fun i=>X i*X i)*w 0+sm x.length X*w 1=sm x.length (fun i=>X i*Y i)/\sm x.length X*w 0+(x.length:Rat)*w 1=sm x.length Y) ↔ (w 0=z 0/\w 1=z 1):=by
   intro w
   have:=k2 w
   constructor
   ·rintro ⟨e1,e2⟩
    have:=this.1 (fun a ha=>by
     rcases (show a=0\/a=1 by omega) with rfl | rfl
     ·rw [zG5,g00,g01,gv0];exact e1
     ·rw [zG5,g10,g11,gv1];exact e2)
    exact ⟨this 0 (by omega),this 1 (by omega)⟩
   ·rintro ⟨e1,e2⟩
    have:=this.2 (fun a ha=>by
     rcases (show a=0\/a=1 by omega) with rfl | rfl
     ·exact e1
     ·exact e2)
    have a0:=this 0 (by omega)
    have a1:=this 1 (by omega)
    rw [zG5,g00,g01,gv0] at a0
    rw [zG5,g10,g11,gv1] at a1
    exact ⟨a0,a1⟩
  have hd:(x.length:Rat)*sm x.length (fun i=>X i*X i) - sm x.length X*sm x.length X≠0:=by
   intro hd
   have e:=(k2' z).2 ⟨rfl,rfl⟩
   have e2:=(k2' (fun a=>if a=0 then z 0+(x.length:Rat) else z 1 - sm x.length X)).1 (by
    simp only [if_true,if_neg (show ¬ (1:Nat)=0 by decide)]
    constructor <;> grind)
   simp only [if_true,if_neg (show ¬ (1:Nat)=0 by decide)] at e2
   have hn0:(x.length:Rat)=0:=by grind
   have hx0:sm x.length X=0:=by grind
   have e3:=(k2' (fun a=>if a=0 then z 0 else z 1+1)).1 (by
    simp only [if_true,if_neg (show ¬ (1:Nat)=0 by decide)]
    constructor <;> grind)
   simp only [if_true,if_neg (show ¬ (1:Nat)=0 by decide)] at e3
   grind
  have hn:(x.length:Rat)≠0:=by
   intro hn
   apply hd
   have:x.length=0:=by simpa using hn
   rw [this]
   simp only [sm]
   grind
  obtain ⟨z0,z1⟩:=line_two k2' hn hd
  rw [if_neg hd,<- z1,<- z0] at H
  have hol:=k1.1
  rw [gi_gdi (show (0:Int)=((0:Nat):Int) from rfl),gi_gdi (show (1:Int)=((1:Nat):Int) from rfl)]
  refine W.req_i (by simp only;omega) (W.bd (zDt (k1.2 0 (by omega)) (W.req_i (by simp only;omega) (W.bd (zDt (k1.2 1 (by omega)) ?_)))))
  unfold toldLine at H
  simp only at H |-
  refine W.run_if (fun c4=>W.run_if (fun c5=>?_) (fun c5=>?_)) (fun c4=>?_)
  ·rwa [if_pos ⟨c4,c5⟩] at H
  ·rwa [if_neg (fun h=>c5 h.2)] at H
  ·rwa [if_neg (fun h=>c4 h.1)] at H
 ·rw [if_neg (by simp)]
  have e0:=k2 0 (by omega)
  have e1:=k2 1 (by omega)
  rw [zG5,g00,g01] at e0
  rw [zG5,g10,g11] at e1
  have hd:(x.length:Rat)*sm x.length (fun i=>X i*X i) - sm x.length X*sm x.length X=0:=by
   generalize sm x.length (fun i=>X i*X i)=sxx at *
   generalize sm x.length X=sx at *
   generalize (x.length:Rat)=n at *
   have a1:(n*sxx - sx*sx)*z 0=0:=by grind
   have a2:(n*sxx - sx*sx)*z 1=0:=by grind
   obtain ⟨f,hf,hz⟩:=k1
   rcases (show f=0\/f=1 by omega) with rfl | rfl
   ·rcases Rat.mul_eq_zero.1 a1 with e | e
    ·exact e
    ·exact absurd e hz
   ·rcases Rat.mul_eq_zero.1 a2 with e | e
    ·exact e
    ·exact absurd e hz
  rwa [if_pos hd] at H
end
end Go.Proofs.Ytlmpoindlejefaa.E
namespace Go.Proofs.Ytlmpoindlejefaa.E
open Go Go.RowKit
theorem zIa:lineSpec [⟨0,1⟩,⟨1,1⟩,⟨2,1⟩] [⟨1,1⟩,⟨2,1⟩,⟨4,1⟩] =(⟨3,2⟩,⟨5,6⟩,0):=by decide +kernel
theorem zC7 {Q:Bool->Prop} (H:Q true):zCm.f.run Q:=by
 unfold zCm.f
 refine W.req_i (by simp) (W.req_i (by simp) (W.bd (zHp (by simp) (by simp) ?_)))
 have e:lineSpec ([⟨0,1⟩,⟨1,1⟩,⟨2,1⟩,⟨4,1⟩].take (3:Int).toNat) ([⟨0,1⟩,⟨1,1⟩,⟨2,1⟩,⟨4,1⟩].drop (1:Int).toNat)=(⟨3,2⟩,⟨5,6⟩,0):=zIa
 rw [e]
 exact H
end Go.Proofs.Ytlmpoindlejefaa.E
namespace Go.Proofs.Ytlmpoindlejefaa.E
open Go Go.RowKit
theorem zE5 {x:Rat} (h:(toldR x).2=true):valid (toldR x).1/\ratOf (toldR x).1=x:=by
 unfold toldR at h |-
 by_cases c: -1000000000000<=x.num/\x.num<=1000000000000/\x.den<=1000000000000
 ·rw [if_pos c]
  refine ⟨⟨?_,?_,c.1,c.2.1,?_⟩,?_⟩
  ·have:=x.den_pos;show 1<=(x.den:Int);omega
  ·show (x.den:Int)<=1000000000000;omega
  ·show Nat.gcd x.num.natAbs (x.den:Int).natAbs=1
   rw [Int.natAbs_natCast];exact x.reduced
  ·exact Rat.num_divInt_den x
 ·rw [if_neg c] at h;exact absurd h (by simp)
def matOk (m:zAh):Prop:=(0<=m.R/\m.R<=12)/\(0<=m.C/\m.C<=12)/\(m.V.length:Int)=m.R*m.C/\∀ r ∈ m.V,valid r
theorem zHl {a b:Int} (ha:0<=a/\a<=13) (hb:0<=b/\b<=13):0<=a*b/\a*b<=169:=by
 have:=Int.mul_le_mul ha.2 hb.2 hb.1 (show (0:Int)<=13 by decide)
 exact ⟨Int.mul_nonneg ha.1 hb.1,by omega⟩
theorem zF6 {m:zAh} {Q:Int->Prop} (hl:m.V.length<=281474976710656) (h0:matOk m->Q 0) (h1: ¬ matOk m->Q 1):(zDR.f m).run Q:=by
 unfold zDR.f
 refine W.run_if (fun c=>h1 fun h=>by have:=h.1;omega) (fun c1=>W.run_if (fun c=>h1 fun h=>by have:=h.1;omega) (fun c2=>W.run_if (fun c=>h1 fun h=>by have:=h.2.1;omega) (fun c3=>W.run_if (fun c=>h1 fun h=>by have:=h.2.1;omega) (fun c4=>?_))))
 have hp:=zHl (a:=m.R) (b:=m.C) (by omega) (by omega)
 exact W.req_i (by show _/\_;omega) (W.run_if (fun c=>h1 fun h=>c h.2.2.1) (fun c5=>W.bd (zBs hl (W.run_if (fun c=>h0 ⟨by omega,by omega,by omega,of_decide_eq_true c⟩) (fun c=>h1 fun h=>c (decide_eq_true h.2.2.2))))))
theorem zFh {l:List zAC} {Q:Int->Prop} (hl:l.length<=281474976710656) (h0:(∀ r ∈ l,valid r)->Q 0) (h1:(¬ ∀ r ∈ l,valid r)->Q 1):(zA5.f l).run Q:=by
 unfold zA5.f
 refine W.loop_c (fun p=>∃ i:Nat,p=i/\i<=l.length/\∀ k,k<i->valid (gd l k)) (fun p=>l.length - p.toNat) ⟨0,rfl,Nat.zero_le _,fun k hk=>by omega⟩ ?_
 rintro _ P ⟨i,rfl,hi,hv⟩ hgo hbrk hout
 unfold zA5.l1
 rw [zCI]
 refine W.run_if (fun c=>W.req_i (by omega) (W.bd (zFp (W.run_if (fun c2=>hgo _ ⟨i+1,by simp,by omega,fun k hk=>?_⟩ (by omega)) (fun c2=>hout _ (h1 fun h=>c2 (decide_eq_true (h _ (zIK (by omega)))))))))) (fun c=>hbrk _ (h0 ((zAv l).2 fun k hk=>hv k (by omega))))
 by_cases e:k=i
 ·subst e;exact of_decide_eq_true c2
 ·exact hv k (by omega)
theorem zFJ {m:zAh} {Q:Int->Prop} (hl:m.V.length<=281474976710656) (h0:matOk m->Q 0) (h1: ¬ matOk m->Q 1):(zCw.f m).run Q:=by
 unfold zCw.f
 refine W.run_if (fun c=>h1 fun h=>by have:=h.1;omega) (fun c1=>W.run_if (fun c=>h1 fun h=>by have:=h.1;omega) (fun c2=>W.run_if (fun c=>h1 fun h=>by have:=h.2.1;omega) (fun c3=>W.run_if (fun c=>h1 fun h=>by have:=h.2.1;omega) (fun c4=>?_))))
 have hp:=zHl (a:=m.R) (b:=m.C) (by omega) (by omega)
 exact W.req_i (by show _/\_;omega) (W.run_if (fun c=>h1 fun h=>c h.2.2.1) (fun c5=>W.bd (zFh hl (fun c=>h0 ⟨by omega,by omega,by omega,c⟩) (fun c=>h1 fun h=>c h.2.2.2))))
theorem gd_cut {α:Type} [Inhabited α] (l:List α) (a b k:Nat) (h:k<b):gd ((l.drop a).take b) k=gd l (a+k):=by
 simp [gd,List.getD_eq_getElem?_getD,List.getElem?_take,h,List.getElem?_drop]
theorem cut_eq {α:Type} (l:List α) (i c:Nat):(l.drop ((i:Int)*(c:Int)).toNat).take (((i:Int)+1)*(c:Int) - (i:Int)*(c:Int)).toNat=(l.drop (i*c)).take c:=by
 have e:((i:Int)+1)*(c:Int) - (i:Int)*(c:Int)=(c:Int):=by rw [Int.add_mul,Int.one_mul];omega
 rw [e,<- Int.natCast_mul,Int.toNat_natCast,Int.toNat_natCast]
theorem at_lt {i r k c:Nat} (hi:i<r) (hk:k<c):i*c+k<r*c:=by
 have:=Nat.mul_le_mul_right c (show i+1<=r from hi)
 rw [Nat.add_mul] at this
 omega
theorem row_in {n i r c:Nat} (hl:n=r*c) (hi:i<r):(0:Int)<=(i:Int)*(c:Int)/\(i:Int)*(c:Int)<=((i:Int)+1)*(c:Int)/\((i:Int)+1)*(c:Int)<=(n:Int):=by
 have:=Nat.mul_le_mul_right c (show i+1<=r from hi)
 rw [Nat.add_mul] at this
 have e:((i:Int)+1)*(c:Int)=(i:Int)*(c:Int)+(c:Int):=by rw [Int.add_mul,Int.one_mul]
 rw [e,<- Int.natCast_mul]
 omega
theorem cut_len {α:Type} {l:List α} {i r c:Nat} (hl:l.length=r*c) (hi:i<r):((l.drop (i*c)).take c).length=c:=by
 have:=Nat.mul_le_mul_right c (show i+1<=r from hi)
 rw [Nat.add_mul] at this
 rw [List.length_take,List.length_drop]
 omega
def mxv (v:List zAC) (c j i:Nat):Rat:=ratOf (gd v (j*c+i))
theorem zDG {l:List zAC} {n:Nat} {f:Nat->Rat} {Q:List zAD->Prop} (hn:l.length=n) (hn2:n<=1000000) (hv:∀ k,k<n->valid (gd l k)/\ratOf (gd l k)=f k) (H:∀ o,QL o n f->Q o):(zC2.f l).run Q:=by
 unfold zC2.f
 rw [Int.toNat_natCast]
 refine W.req_i (by omega) ?_
 refine W.loop_c (fun s:List zAD×Int=>∃ i:Nat,s.2=i/\i<=n/\s.1.length=n/\∀ j,j<i->QRep (gd s.1 j) (f j)) (fun s=>n - s.2.toNat) ⟨0,rfl,Nat.zero_le _,by simp [hn],fun j hj=>by omega⟩ ?_
 rintro ⟨o,_⟩ P ⟨i,rfl,hi,h1,h2⟩ hgo hbrk hout
 simp only at h1 h2 hgo |-
 unfold zC2.l1
 simp only [zCI,Int.toNat_natCast]
 refine W.run_if (fun c=>W.req_i (by omega) (W.bd (zFm (hv i (by omega)).1 fun z hz=>W.req_i (by omega) (hgo _ ⟨i+1,by simp,by omega,by simp [h1],fun j hj=>?_⟩ (by simp;omega))))) (fun c=>hbrk _ (H _ ⟨h1,fun j hj=>h2 j (by omega)⟩))
 rw [zCX]
 by_cases e:i=j
 ·subst e;rw [if_pos ⟨rfl,by omega⟩,<- (hv i (by omega)).2];exact hz
 ·rw [if_neg (by omega)];exact h2 j (by omega)
structure Sums (S:zAc) (n:Nat) (A:Nat->Nat->Rat) (V:Nat->Rat) (q:Rat):Prop where
 hn:S.n=n
 hm:QM S.m n n A
 hv:QL S.v n V
 hq:QRep S.q q
structure Small (s n:Nat) (A:Nat->Nat->Rat) (V:Nat->Rat) (q:Rat):Prop where
 a:∀ i k,i<n->k<n->Sz s (A i k)
 v:∀ i,i<n->Sz s (V i)
 q:Sz s q
def gA (v:List zAC) (c n i k:Nat):Rat:=sm n (fun j=>mxv v c j i*mxv v c j k)
def gV (v b:List zAC) (c n i:Nat):Rat:=sm n (fun j=>mxv v c j i*ratOf (gd b j))
def gq (b:List zAC) (n:Nat):Rat:=sm n (fun j=>ratOf (gd b j)*ratOf (gd b j))
theorem zGg {v b:List zAC} {c r n:Nat} (hr:r<=12) (hn:n<=r) (hv:∀ j i,j<r->i<c->valid (gd v (j*c+i))) (hb:∀ j,j<r->valid (gd b j)):Small 973 c (gA v c n) (gV v b c n) (gq b n):=by
 refine ⟨fun i k hi hk=>?_,fun i hi=>?_,?_⟩
 ·exact (Sz.sm fun j hj=>(hv j i (by omega) hi).sz.mul (hv j k (by omega) hk).sz).mono (by omega)
 ·exact (Sz.sm fun j hj=>(hv j i (by omega) hi).sz.mul (hb j (by omega)).sz).mono (by omega)
 ·exact (Sz.sm fun j hj=>(hb j (by omega)).sz.mul (hb j (by omega)).sz).mono (by omega)
theorem matOk.at {m:zAh} {r c:Nat} (h:matOk m) (hR:m.R=r) (hC:m.C=c):m.V.length=r*c/\∀ j i,j<r->i<c->valid (gd m.V (j*c+i)):=by
 have hl:m.V.length=r*c:=by
  have:=h.2.2.1
  rw [hR,hC,<- Int.natCast_mul] at this
  exact Int.ofNat.inj this
 refine ⟨hl,fun j i hj hi=>(zAv _).1 h.2.2.2 _ ?_⟩
 rw [hl]
 exact at_lt hj hi
theorem zD4 {m:zAh} {b:List zAC} {r c:Nat} {Q:zAQ->Prop} (hm:matOk m) (hR:m.R=r) (hC:m.C=c) (hb:b.length=r) (vb:∀ k,k<r->valid (gd b k)) (H:∀ P:zAQ,Sums P.sums c (gA m.V c r) (gV m.V b c r) (gq b r)->Q P):(zB6.f m b).run Q:=by
 obtain ⟨hl,hv⟩:=hm.at hR hC
 have hr12:r<=12:=by have:=hm.1;omega
 have hc12:c<=12:=by have:=hm.2.1;omega
 unfold zB6.f
 rw [hC]
 refine W.bd (zFy (n:=c) (by omega) fun S hS1 hS2 hS3 hS4=>W.bd (zDG hb (by omega) (fun k hk=>⟨vb k hk,rfl⟩) fun B hB=>?_))
 refine W.loop_c (fun s:Int×List (List zAD)×List zAD×zAD×List (List zAD)×List zAD×Int=>∃ i:Nat,s.2.2.2.2.2.2=i/\i<=r/\s.2.2.2.2.1.length=i/\s.2.2.2.2.2.1=B/\Sums ⟨s.1,s.2.1,s.2.2.1,s.2.2.2.1⟩ c (gA m.V c i) (gV m.V b c i) (gq b i)) (fun s=>r - s.2.2.2.2.2.2.toNat) ⟨0,rfl,Nat.zero_le _,rfl,rfl,⟨hS1,hS2,hS3,hS4⟩⟩ ?_
 rintro ⟨n,M,v,q,rows,_,_⟩ P ⟨i,rfl,hi,h1,rfl,h2⟩ hgo hbrk hout
 simp only at h1 h2 hB hgo |-
 unfold zB6.l1
 rw [hR,hC]
 refine W.run_if (fun c1=>?_) (fun c1=>hbrk _ ?_)
 ·have hir:i<r:=by omega
  have hp:=zHl (a:=(i:Int)) (b:=(c:Int)) (by omega) (by omega)
  have hp2:=zHl (a:=(i:Int)+1) (b:=(c:Int)) (by omega) (by omega)
  refine W.req_i (by show _/\_;omega) (W.req_i (by show _/\_;omega) (W.req_i (row_in hl hir) ?_))
  rw [cut_eq]
  refine W.bd (zDG (n:=c) (f:=mxv m.V c i) (cut_len hl hir) (by omega) (fun k hk=>?_) fun ro hro=>?_)
  ·rw [gd_cut _ _ _ _ hk];exact ⟨hv i k hir hk,rfl⟩
  have e:gi (rows ++ [ro]) (i:Int)=ro:=by rw [zCI,zGf,if_neg (by omega),h1,Nat.sub_self];rfl
  have hBl:=hB.1
  rw [e,zCI]
  have z:=zGg (n:=i) hr12 hi hv vb
  exact W.req_i (by omega) (W.req_i (by simp;omega) (W.req_i (by omega) (W.bd (zEW (n:=c) (s:=973) (t:=40) h2.hn (by omega) h2.hm h2.hv h2.hq hro (hB.2 i hir) (by omega) (by omega) z.a z.v z.q (fun a ha=>(hv i a hir ha).sz) (vb i hir).sz fun S' k1 k2 k3 k4=>hgo _ ⟨i+1,by simp,by omega,by simp [h1],rfl,⟨k1,k2,k3,k4⟩⟩ (by simp;omega)))))
 ·obtain rfl:i=r:=by omega
  unfold zB6.j1
  exact H _ h2
theorem zEQ {a b:List zAD} {n s t:Nat} {f g:Nat->Rat} {Q:zAD->Prop} (ha:QL a n f) (hb:QL b n g) (hs:n*(s+t+1)+1<=8796093022208) (hs2:s+t<=8796093022208) (sf:∀ i,i<n->Sz s (f i)) (sg:∀ i,i<n->Sz t (g i)) (H:∀ z,QRep z (sm n (fun i=>f i*g i))->Q z):(zCn.f a b).run Q:=by
 have hal:=ha.1
 have hbl:=hb.1
 unfold zCn.f
 refine W.bd (zCr (by show _/\_;omega) fun z hz=>?_)
 refine W.loop_c (fun s:zAD×Int=>∃ i:Nat,s.2=i/\i<=n/\QRep s.1 (sm i (fun i=>f i*g i))) (fun s=>n - s.2.toNat) ⟨0,rfl,Nat.zero_le _,hz⟩ ?_
 rintro ⟨o,_⟩ P ⟨i,rfl,hi,h1⟩ hgo hbrk hout
 simp only at h1 hgo |-
 unfold zCn.l1
 simp only [zCI]
 refine W.run_if (fun c=>?_) (fun c=>hbrk _ ?_)
 ·have hin:i<n:=by omega
  have hmul:=Nat.mul_le_mul_right (s+t+1) hi
  have sz:Sz (i*(s+t+1)+1) (sm i (fun i=>f i*g i)):=Sz.sm fun j hj=>(sf j (by omega)).mul (sg j (by omega))
  exact W.req_i (by omega) (W.req_i (by omega) (W.bd (zBh (ha.2 i hin) (hb.2 i hin) ((sf i hin).ok (by omega)) ((sg i hin).ok (by omega)) fun x hx=>W.bd (zCB h1 hx (sz.ok (by omega)) (((sf i hin).mul (sg i hin)).ok hs2) fun y hy=>hgo _ ⟨i+1,by simp,by omega,hy⟩ (by simp;omega)))))
 ·obtain rfl:i=n:=by omega
  exact H _ h1
def errQ (n:Nat) (A:Nat->Nat->Rat) (V:Nat->Rat) (q:Rat) (x:Nat->Rat):Rat:=q - sm n (fun i=>V i*x i)*2+sm n (fun i=>x i*sm n (fun k=>A i k*x k))
theorem zFE {S:zAc} {l:List zAD} {n:Nat} {A:Nat->Nat->Rat} {V x:Nat->Rat} {q:Rat} {Q:zAD->Prop} (hS:Sums S n A V q) (hn:n<=12) (hx:QL l n x) (z:Small 973 n A V q) (sx:∀ i,i<n->Sz 16400000000 (x i)) (H:∀ o,QRep o (errQ n A V q x)->Q o):(zA3.f S l).run Q:=by
 have hxl:=hx.1
 have hml:=hS.hm.1
 unfold zA3.f
 refine W.bd (zEQ hS.hv hx (by omega) (by omega) z.v sx fun d hd=>W.bd (zCr (n:=2) (by show _/\_;omega) fun two h2=>?_))
 have zd:Sz 196800011689 (sm n (fun i=>V i*x i)):=(Sz.sm fun j hj=>(z.v j hj).mul (sx j hj)).mono (by omega)
 have z2:Sz 2 (((2:Int):Rat)):=⟨by decide,by decide⟩
 have zb:=z.q.sub (zd.mul z2)
 refine W.bd (zBh hd h2 (zd.ok (by omega)) (z2.ok (by omega)) fun p hp=>W.bd (zCS hS.hq hp (z.q.ok (by omega)) ((zd.mul z2).ok (by omega)) fun b hb=>?_))
 refine W.loop_c (fun s:zAD×Int=>∃ i:Nat,s.2=i/\i<=n/\QRep s.1 (q - sm n (fun i=>V i*x i)*((2:Int):Rat)+sm i (fun i=>x i*sm n (fun k=>A i k*x k)))) (fun s=>n - s.2.toNat) ⟨0,rfl,Nat.zero_le _,by simpa [sm,Rat.add_zero] using hb⟩ ?_
 rintro ⟨o,_⟩ P ⟨i,rfl,hi,h1⟩ hgo hbrk hout
 simp only at h1 hgo |-
 unfold zA3.l1
 simp only [zCI,hS.hn]
 have zr:∀ j,j<n->Sz 196800011689 (sm n (fun k=>A j k*x k)):=fun j hj=>(Sz.sm fun k hk=>(z.a j k hj hk).mul (sx k hk)).mono (by omega)
 refine W.run_if (fun c=>?_) (fun c=>hbrk _ ?_)
 ·have hin:i<n:=by omega
  have zs:Sz (i*(16400000000+196800011689+1)+1) (sm i (fun i=>x i*sm n (fun k=>A i k*x k))):=Sz.sm fun j hj=>(sx j (by omega)).mul (zr j (by omega))
  refine W.req_i (by omega) (W.req_i (by omega) (W.bd (zEQ (hS.hm.2 i hin) hx (by omega) (by omega) (fun k hk=>z.a i k hin hk) sx fun e he=>W.bd (zBh (hx.2 i hin) he ((sx i hin).ok (by omega)) ((zr i hin).ok (by omega)) fun u hu=>W.bd (zCB h1 hu ((zb.add zs).ok (by omega)) (((sx i hin).mul (zr i hin)).ok (by omega)) fun y hy=>hgo _ ⟨i+1,by simp,by omega,?_⟩ (by simp;omega))))))
  rw [sm,<- Rat.add_assoc]
  exact hy
 ·obtain rfl:i=n:=by omega
  exact H _ h1
def tolds (n:Nat) (f:Nat->Rat):List zAC:=(List.range n).map fun i=>(toldR (f i)).1
def allTold (n:Nat) (f:Nat->Rat):Prop:=∀ i,i<n->(toldR (f i)).2=true
theorem zD8 (n:Nat) (f:Nat->Rat):(tolds n f).length=n:=by simp [tolds]
theorem tolds_gd {n:Nat} {f:Nat->Rat} {k:Nat} (h:k<n):gd (tolds n f) k=(toldR (f k)).1:=by
 rw [zHN (by rw [zD8];exact h)];simp [tolds]
theorem zHj {l:List zAD} {n:Nat} {f:Nat->Rat} {Q:List zAC×Bool->Prop} (hl:QL l n f) (hn:n<=1000000) (h1:allTold n f->Q (tolds n f,true)) (h2: ¬ allTold n f->Q ([],false)):(zCa.f l).run Q:=by
 have hll:=hl.1
 unfold zCa.f
 rw [Int.toNat_natCast]
 refine W.req_i (by omega) ?_
 refine W.loop_c (fun s:List zAC×Int=>∃ i:Nat,s.2=i/\i<=n/\s.1.length=n/\∀ j,j<i->gd s.1 j=(toldR (f j)).1/\(toldR (f j)).2=true) (fun s=>n - s.2.toNat) ⟨0,rfl,Nat.zero_le _,by simp [hll],fun j hj=>by omega⟩ ?_
 rintro ⟨o,_⟩ P ⟨i,rfl,hi,k1,k2⟩ hgo hbrk hout
 simp only at k1 k2 hgo |-
 unfold zCa.l1
 simp only [zCI,Int.toNat_natCast]
 refine W.run_if (fun c=>W.req_i (by omega) (W.bd (zDt (hl.2 i (by omega)) (W.run_if (fun c2=>W.req_i (by omega) (hgo _ ⟨i+1,by simp,by omega,by simp [k1],fun j hj=>?_⟩ (by simp;omega))) (fun c2=>hout _ (h2 fun h=>c2 (h i (by omega)))))))) (fun c=>hbrk _ ?_)
 ·rw [zCX]
  by_cases e:i=j
  ·subst e;rw [if_pos ⟨rfl,by omega⟩];exact ⟨rfl,c2⟩
  ·rw [if_neg (by omega)];exact k2 j (by omega)
 ·have e:o=tolds n f:=by
   apply List.ext_getElem
   ·rw [k1,zD8]
   ·intro j a b
    have:=(k2 j (by omega)).1
    rw [zHN a] at this
    rw [this]
    simp [tolds]
  have:=h1 fun j hj=>(k2 j (by omega)).2
  rw [<- e] at this
  exact this
theorem zFw {l:List zAD} {o:zAD} {n:Nat} {f:Nat->Rat} {q:Rat} {Q:List zAC×zAC×Int->Prop} (hl:QL l n f) (hn:n<=1000000) (ho:QRep o q) (h1:allTold n f->(toldR q).2=true->Q (tolds n f,(toldR q).1,0)) (h2: ¬ (allTold n f/\(toldR q).2=true)->Q ([],⟨0,0⟩,3)):(zDe.f l o).run Q:=by
 unfold zDe.f
 refine W.bd (zHj hl hn (fun c=>W.bd (zDt ho ?_)) (fun c=>W.bd (zDt ho ?_)))
 ·rw [if_pos rfl]
  exact W.run_if (fun c2=>h1 c c2) (fun c2=>h2 fun h=>c2 h.2)
 ·rw [if_neg (by simp)]
  exact h2 fun h=>c h.1
end Go.Proofs.Ytlmpoindlejefaa.E
namespace Go.Proofs.Ytlmpoindlejefaa.E
open Go Go.RowKit
theorem zFc {m:zAh} {b:List zAC} {Q:Int->Prop} (hl:m.V.length<=281474976710656) (hb:b.length<=281474976710656) (h0:matOk m->(∀ r ∈ b,valid r)->Q 0) (h1: ¬ (matOk m/\∀ r ∈ b,valid r)->Q 1):(zDT.f m b).run Q:=by
 unfold zDT.f
 refine W.bd (zF6 hl (fun c=>?_) (fun c=>?_))
 ·rw [if_neg (by decide)]
  exact W.bd (zBs hb (W.run_if (fun c2=>h0 c (of_decide_eq_true c2)) (fun c2=>h1 fun h=>c2 (decide_eq_true h.2))))
 ·rw [if_pos (by decide)]
  exact h1 fun h=>c h.1
def Sol (n:Nat) (A:Nat->Nat->Rat) (V x:Nat->Rat):Prop:=∀ y,(∀ i,i<n->dz n (A i) y=V i) ↔ ∀ i,i<n->y i=x i
theorem zIh {s n:Nat} (hs:s<=973) (hn:n<=12):szR s n<=16400000000:=by
 have h1:=zG8 s hn
 have h2:szR s 12<=16400000000:=by simp only [szR];omega
 omega
theorem zIz {n:Nat} {f x y:Nat->Rat} (h:∀ i,i<n->x i=y i):dz n f x=dz n f y:=zAW fun i hi=>by rw [h i hi]
end Go.Proofs.Ytlmpoindlejefaa.E
