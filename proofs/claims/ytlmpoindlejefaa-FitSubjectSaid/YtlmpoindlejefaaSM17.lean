/- Numbers that are valid; rows and tables of numbers. -/
import Derived.Test.YtlmpoindlejefaaSM16
set_option linter.unusedVariables false
set_option linter.unusedSimpArgs false
namespace Go.Proofs.Ytlmpoindlejefaa.E
open Go Go.RowKit
instance (r:api_Rat):Decidable (valid r):=by unfold valid;infer_instance
theorem natAbs_tmod_gcd (u v:Int):Nat.gcd v.natAbs (u.tmod v).natAbs=Nat.gcd u.natAbs v.natAbs:=by
 rw [Int.natAbs_tmod,Nat.gcd_comm v.natAbs,<- Nat.gcd_rec,Nat.gcd_comm]
theorem num_Valid_run {r:api_Rat} {Q:Bool->Prop} (H:Q (decide (valid r))):(num_Valid.f r).run Q:=by
 have no: ¬ valid r->Q false:=fun h=>by rwa [decide_eq_false h] at H
 unfold num_Valid.f
 refine W.run_if (fun c=>no fun h=>by have:=h.1;omega) (fun c1=>W.run_if (fun c=>no fun h=>by have:=h.2.1;omega) (fun c2=>W.run_if (fun c=>no fun h=>by have:=h.2.2.2.1;omega) (fun c3=>W.run_if (fun c=>no fun h=>by have:=h.2.2.1;omega) (fun c4=>?_))))
 refine W.loop_c (fun s:Int×Int=>Nat.gcd s.1.natAbs s.2.natAbs=Nat.gcd r.N.natAbs r.D.natAbs) (fun s=>s.2.natAbs) rfl ?_
 rintro ⟨u,v⟩ P hg hgo hbrk hout
 simp only at hg hgo |-
 unfold num_Valid.l1
 refine W.run_if (fun c=>W.req_i c (hgo _ ?_ ?_)) (fun c=>hbrk _ ?_)
 ·simp only
  rw [natAbs_tmod_gcd,hg]
 ·simp only
  rw [Int.natAbs_tmod]
  exact Nat.mod_lt _ (by omega)
 ·have hv:v=0:=by omega
  subst hv
  simp at hg
  have e:valid r ↔ u.natAbs=1:=by unfold valid;rw [hg];constructor <;> intro h <;> omega
  unfold num_Valid.j1
  simp only
  refine W.run_if (fun c=>?_) (fun c=>?_)
  ·rwa [show decide (valid r)=true from by simp [e];omega] at H
  ·rwa [show decide (valid r)=decide (u= -1) from by rw [decide_eq_decide,e];omega] at H
theorem ref01_Is_run {r:api_Rat} {Q:Bool->Prop} (H:Q (decide (valid r))):(ref01_Is.f r).run Q:=by
 have no: ¬ valid r->Q false:=fun h=>by rwa [decide_eq_false h] at H
 unfold ref01_Is.f
 refine W.run_if (fun c=>no fun h=>by have:=h.1;omega) (fun c1=>W.run_if (fun c=>no fun h=>by have:=h.2.1;omega) (fun c2=>W.run_if (fun c=>no fun h=>by have:=h.2.2.1;omega) (fun c3=>W.run_if (fun c=>no fun h=>by have:=h.2.2.2.1;omega) (fun c4=>?_))))
 have go:∀ m,m=(r.N.natAbs:Int)->(ref01_Is.j1 r m).run Q:=by
  intro m hm
  unfold ref01_Is.j1
  refine W.loop_c (fun s:Int×Int=>0<=s.1/\0<=s.2/\Nat.gcd s.1.natAbs s.2.natAbs=Nat.gcd r.N.natAbs r.D.natAbs) (fun s=>s.2.natAbs) ⟨by simp only;omega,by simp only;omega,by simp only;rw [hm];simp⟩ ?_
  rintro ⟨u,v⟩ P ⟨h1,h2,hg⟩ hgo hbrk hout
  simp only at h1 h2 hg hgo |-
  unfold ref01_Is.l1
  refine W.run_if (fun c=>W.req_i (by omega) (hgo _ ⟨h2,?_,?_⟩ ?_)) (fun c=>hbrk _ ?_)
  ·exact Int.tmod_nonneg _ h1
  ·simp only
   rw [natAbs_tmod_gcd,hg]
  ·simp only
   rw [Int.natAbs_tmod]
   exact Nat.mod_lt _ (by omega)
  ·have hv:v=0:=by omega
   subst hv
   simp at hg
   have e:valid r ↔ u=1:=by unfold valid;constructor <;> intro h <;> omega
   unfold ref01_Is.j2
   rwa [show decide (valid r)=decide (u=1) from by rw [decide_eq_decide,e]] at H
 exact W.run_if (fun c=>W.req_i (by show _/\_;omega) (go _ (by omega))) (fun c=>go _ (by omega))
section
variable {α:Type} [Inhabited α]
def gd (l:List α) (k:Nat):α:=l.getD k default
theorem gi_gd (l:List α) (k:Nat):gi l (k:Int)=gd l k:=by rw [gi,gd,Int.toNat_natCast]
theorem gi_gdi {l:List α} {i:Int} {k:Nat} (h:i=k):gi l i=gd l k:=by rw [h,gi_gd]
theorem gd_lt {l:List α} {k:Nat} (h:k<l.length):gd l k=l[k]:=by simp [gd,List.getD_eq_getElem?_getD,h]
theorem gd_set (l:List α) (i:Nat) (x:α) (k:Nat):gd (l.set i x) k=if i=k/\k<l.length then x else gd l k:=by
 simp only [gd,List.getD_eq_getElem?_getD,List.getElem?_set]
 by_cases h:i=k
 ·subst h
  by_cases h2:i<l.length
  ·simp [h2]
  ·simp [h2]
 ·simp [h]
theorem gd_app (l m:List α) (k:Nat):gd (l ++ m) k=if k<l.length then gd l k else gd m (k - l.length):=by
 simp only [gd,List.getD_eq_getElem?_getD,List.getElem?_append]
 split <;> rfl
theorem gd_mem {l:List α} {k:Nat} (h:k<l.length):gd l k ∈ l:=by rw [gd_lt h];exact List.getElem_mem h
end
theorem all_valid_iff (l:List api_Rat):(∀ r ∈ l,valid r) ↔ ∀ k,k<l.length->valid (gd l k):=by
 constructor
 ·intro h k hk;exact h _ (gd_mem hk)
 ·intro h r hr
  obtain ⟨k,hk,rfl⟩:=List.mem_iff_getElem.1 hr
  have:=h k hk
  rwa [gd_lt hk] at this
instance (l:List api_Rat):Decidable (∀ r ∈ l,valid r):=inferInstance
theorem num_AllValid_run {l:List api_Rat} {Q:Bool->Prop} (hl:l.length<=281474976710656) (H:Q (decide (∀ r ∈ l,valid r))):(num_AllValid.f l).run Q:=by
 unfold num_AllValid.f
 refine W.loop_c (fun p=>∃ i:Nat,p=i/\i<=l.length/\∀ k,k<i->valid (gd l k)) (fun p=>l.length - p.toNat) ⟨0,rfl,Nat.zero_le _,fun k hk=>by omega⟩ ?_
 rintro _ P ⟨i,rfl,hi,hv⟩ hgo hbrk hout
 unfold num_AllValid.l1
 rw [gi_gd]
 refine W.run_if (fun c=>W.req_i (by omega) (W.bd (num_Valid_run (W.run_if (fun c2=>hgo _ ⟨i+1,by simp,by omega,fun k hk=>?_⟩ (by omega)) (fun c2=>hout _ ?_))))) (fun c=>hbrk _ ?_)
 ·by_cases e:k=i
  ·subst e;exact of_decide_eq_true c2
  ·exact hv k (by omega)
 ·rwa [decide_eq_false (fun h=>c2 (decide_eq_true (h _ (gd_mem (by omega)))))] at H
 ·rwa [decide_eq_true ((all_valid_iff l).2 fun k hk=>hv k (by omega))] at H
theorem ref01_Are_run {l:List api_Rat} {Q:Bool->Prop} (hl:l.length<=281474976710656) (H:Q (decide (∀ r ∈ l,valid r))):(ref01_Are.f l).run Q:=by
 unfold ref01_Are.f
 refine W.loop_c (fun p=>∃ i:Nat,p=i/\i<=l.length/\∀ k,k<i->valid (gd l k)) (fun p=>l.length - p.toNat) ⟨0,rfl,Nat.zero_le _,fun k hk=>by omega⟩ ?_
 rintro _ P ⟨i,rfl,hi,hv⟩ hgo hbrk hout
 unfold ref01_Are.l1
 rw [gi_gd]
 refine W.run_if (fun c=>W.req_i (by omega) (W.bd (ref01_Is_run (W.run_if (fun c2=>hgo _ ⟨i+1,by simp,by omega,fun k hk=>?_⟩ (by omega)) (fun c2=>hout _ ?_))))) (fun c=>hbrk _ ?_)
 ·by_cases e:k=i
  ·subst e;exact of_decide_eq_true c2
  ·exact hv k (by omega)
 ·rwa [decide_eq_false (fun h=>c2 (decide_eq_true (h _ (gd_mem (by omega)))))] at H
 ·rwa [decide_eq_true ((all_valid_iff l).2 fun k hk=>hv k (by omega))] at H
def QL (l:List num_Q) (n:Nat) (f:Nat->Rat):Prop:=l.length=n/\∀ i,i<n->QRep (gd l i) (f i)
def QM (l:List (List num_Q)) (r c:Nat) (f:Nat->Nat->Rat):Prop:=l.length=r/\∀ i,i<r->QL (gd l i) c (f i)
theorem QL.congr {l:List num_Q} {n:Nat} {f g:Nat->Rat} (h:QL l n f) (he:∀ i,i<n->f i=g i):QL l n g:=⟨h.1,fun i hi=>he i hi ▸ h.2 i hi⟩
theorem QM.congr {l:List (List num_Q)} {r c:Nat} {f g:Nat->Nat->Rat} (h:QM l r c f) (he:∀ i j,i<r->j<c->f i j=g i j):QM l r c g:=⟨h.1,fun i hi=>(h.2 i hi).congr fun j hj=>he i j hi hj⟩
theorem QL.set {l:List num_Q} {n:Nat} {f:Nat->Rat} (h:QL l n f) {i:Nat} {q:num_Q} {y:Rat} (hq:QRep q y):QL (l.set i q) n (fun j=>if j=i then y else f j):=by
 refine ⟨by rw [List.length_set];exact h.1,fun j hj=>?_⟩
 rw [gd_set]
 dsimp only
 by_cases e:i=j
 ·subst e;rw [if_pos ⟨rfl,by rw [h.1];exact hj⟩];simpa using hq
 ·rw [if_neg (by omega),if_neg (by omega)];exact h.2 j hj
theorem QL.snoc {l:List num_Q} {n:Nat} {f:Nat->Rat} (h:QL l n f) {q:num_Q} {y:Rat} (hq:QRep q y):QL (l ++ [q]) (n+1) (fun j=>if j=n then y else f j):=by
 refine ⟨by rw [List.length_append,h.1];rfl,fun j hj=>?_⟩
 rw [gd_app,h.1]
 dsimp only
 by_cases e:j=n
 ·subst e;rw [if_neg (by omega),if_pos rfl,Nat.sub_self];exact hq
 ·rw [if_pos (by omega),if_neg e];exact h.2 j (by omega)
theorem QM.set {l:List (List num_Q)} {r c:Nat} {f:Nat->Nat->Rat} (h:QM l r c f) {i:Nat} {x:List num_Q} {g:Nat->Rat} (hx:QL x c g):QM (l.set i x) r c (fun k=>if k=i then g else f k):=by
 refine ⟨by rw [List.length_set];exact h.1,fun j hj=>?_⟩
 rw [gd_set]
 dsimp only
 by_cases e:i=j
 ·subst e;rw [if_pos ⟨rfl,by rw [h.1];exact hj⟩];simpa using hx
 ·rw [if_neg (by omega),if_neg (by omega)];exact h.2 j hj
def sm:Nat->(Nat->Rat)->Rat
 | 0,_=>0
 | n+1,f=>sm n f+f n
theorem sm_congr {n:Nat} {f g:Nat->Rat} (h:∀ i,i<n->f i=g i):sm n f=sm n g:=by
 induction n with
 | zero=>rfl
 | succ n ih=>rw [sm,sm,ih fun i hi=>h i (by omega),h n (by omega)]
theorem sm_add (n:Nat) (f g:Nat->Rat):sm n (fun i=>f i+g i)=sm n f+sm n g:=by
 induction n with
 | zero=>simp [sm,Rat.add_zero]
 | succ n ih=>rw [sm,sm,sm,ih];grind
theorem sm_mul (n:Nat) (c:Rat) (f:Nat->Rat):sm n (fun i=>c*f i)=c*sm n f:=by
 induction n with
 | zero=>simp [sm]
 | succ n ih=>rw [sm,sm,ih];grind
theorem sm_zero {n:Nat} {f:Nat->Rat} (h:∀ i,i<n->f i=0):sm n f=0:=by
 induction n with
 | zero=>rfl
 | succ n ih=>rw [sm,ih fun i hi=>h i (by omega),h n (by omega),Rat.add_zero]
theorem sm_one {n k:Nat} {f:Nat->Rat} (hk:k<n) (h:∀ i,i<n->i≠k->f i=0):sm n f=f k:=by
 induction n with
 | zero=>omega
 | succ n ih=>
  rw [sm]
  by_cases e:k=n
  ·subst e
   rw [sm_zero fun i hi=>h i (by omega) (by omega),Rat.zero_add]
  ·rw [ih (by omega) fun i hi hne=>h i (by omega) hne,h n (by omega) (by omega),Rat.add_zero]
theorem sm_two {n k m:Nat} {f:Nat->Rat} (hk:k<n) (hm:m<n) (hkm:k≠m) (h:∀ i,i<n->i≠k->i≠m->f i=0):sm n f=f k+f m:=by
 have e:sm n f=sm n (fun i=>(if i=k then f i else 0)+(if i=k then 0 else f i)):=sm_congr fun i _=>by
  by_cases e:i=k
  ·rw [if_pos e,if_pos e,Rat.add_zero]
  ·rw [if_neg e,if_neg e,Rat.zero_add]
 rw [e,sm_add,sm_one hk (fun i _ hi=>by rw [if_neg hi]),sm_one hm (fun i hi hi2=>?_),if_pos rfl,if_neg (Ne.symm hkm)]
 by_cases e:i=k
 ·rw [if_pos e]
 ·rw [if_neg e,h i hi e hi2]
theorem Sz.zero:Sz 1 0:=⟨by decide,by decide⟩
theorem Sz.sm {n s:Nat} {f:Nat->Rat} (h:∀ i,i<n->Sz s (f i)):Sz (n*(s+1)+1) (sm n f):=by
 induction n with
 | zero=>rw [Nat.zero_mul];exact Sz.zero
 | succ n ih=>
  have:=(ih fun i hi=>h i (by omega)).add (h n (by omega))
  rw [E.sm]
  exact this.mono (by rw [Nat.add_mul];omega)
end Go.Proofs.Ytlmpoindlejefaa.E
