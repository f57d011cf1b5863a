/- Joined. -/
import Derived.Test.YtlmpoindlejefaaBM27
set_option linter.unusedVariables false
set_option linter.unusedSimpArgs false
namespace Go.Proofs.Ytlmpoindlejefaa.E
open Go Go.RowKit
def Fd (d:Int) (s:Nat) (x:Rat):Prop:=∃ a:Int,x=(a:Rat) / (d:Rat)/\a.natAbs<2 ^ s
section
variable {d e:Int} {s t:Nat} {x y:Rat}
theorem zGd {d:Int} (h:d≠0):(d:Rat)≠0:=fun e=>h (Rat.intCast_inj.1 (e.trans (by simp)))
theorem Fd.sz (h:Fd d s x) (hd:d≠0) (hs:d.natAbs<2 ^ s):Sz s x:=by
 obtain ⟨a,rfl,ha⟩:=h
 rw [<- Rat.divInt_eq_div]
 exact Sz.over hd ha hs
theorem Fd.mono (h:Fd d s x) (hst:s<=t):Fd d t x:=by
 obtain ⟨a,h1,h2⟩:=h
 exact ⟨a,h1,zCM h2 hst⟩
theorem zHE (q:Rat):((0:Int):Rat) / q=0:=by rw [Rat.div_def];simp [Rat.zero_mul]
theorem Fd.zero:Fd d s 0:=⟨0,(zHE _).symm,by simpa using Nat.two_pow_pos s⟩
theorem Fd.one (hd:d≠0) (hs:d.natAbs<2 ^ s):Fd d s 1:=⟨d,by have:=zGd hd;grind,hs⟩
theorem Fd.neg (h:Fd d s x):Fd d s (-x):=by
 obtain ⟨a,rfl,ha⟩:=h
 exact ⟨-a,by rw [Rat.intCast_neg];grind,by rwa [Int.natAbs_neg]⟩
theorem Fd.add (h:Fd d s x) (k:Fd d s y):Fd d (s+1) (x+y):=by
 obtain ⟨a,rfl,ha⟩:=h
 obtain ⟨b,rfl,hb⟩:=k
 exact ⟨a+b,by rw [Rat.intCast_add,Rat.div_def,Rat.div_def,Rat.div_def,Rat.add_mul],zFe ha hb⟩
theorem Fd.sub (h:Fd d s x) (k:Fd d s y):Fd d (s+1) (x - y):=by rw [Rat.sub_eq_add_neg];exact h.add k.neg
theorem Fd.mul (h:Fd d s x) (k:Fd e t y) (hd:d≠0) (he:e≠0):Fd (d*e) (s+t) (x*y):=by
 obtain ⟨a,rfl,ha⟩:=h
 obtain ⟨b,rfl,hb⟩:=k
 have h1:=zGd hd
 have h2:=zGd he
 refine ⟨a*b,?_,zA8 ha hb⟩
 rw [Rat.intCast_mul,Rat.intCast_mul]
 grind
theorem Fd.up (h:Fd d s x) (hd:d≠0) (he:e≠0) (ht:e.natAbs<2 ^ t):Fd (d*e) (s+t) x:=by
 have:=h.mul (Fd.one he ht) hd he
 rwa [Rat.mul_one] at this
theorem Fd.sm {n:Nat} {f:Nat->Rat} (h:∀ i,i<n->Fd d s (f i)):Fd d (s+n) (sm n f):=by
 induction n with
 | zero=>exact Fd.zero
 | succ n ih=>exact (show Fd d (s+n+1) (Go.Proofs.Ytlmpoindlejefaa.E.sm n f+f n) from Fd.add (ih fun i hi=>h i (by omega)) ((h n (Nat.lt_succ_self _)).mono (Nat.le_add_right _ _)))
end
def Bt (s:Nat) (d:Int):Prop:=d.natAbs<2 ^ s
theorem Bt.mono {s t:Nat} {d:Int} (h:Bt s d) (hst:s<=t):Bt t d:=zCM h hst
theorem Bt.mul {s t:Nat} {d e:Int} (h:Bt s d) (k:Bt t e):Bt (s+t) (d*e):=zA8 h k
def CdM (r c s:Nat) (M:Nat->Nat->Rat):Prop:=∃ d:Int,d≠0/\d.natAbs<2 ^ s/\∀ i j,i<r->j<c->Fd d s (M i j)
theorem CdM.sz {r c s:Nat} {M:Nat->Nat->Rat} (h:CdM r c s M):∀ i j,i<r->j<c->Sz s (M i j):=fun i j hi hj=>by
 obtain ⟨d,h0,h1,h2⟩:=h
 exact (h2 i j hi hj).sz h0 h1
theorem CdM.mono {r c s t:Nat} {M:Nat->Nat->Rat} (h:CdM r c s M) (hst:s<=t):CdM r c t M:=by
 obtain ⟨d,h0,h1,h2⟩:=h
 exact ⟨d,h0,zCM h1 hst,fun i j hi hj=>(h2 i j hi hj).mono hst⟩
theorem CdM.step {r c s m p k:Nat} {M:Nat->Nat->Rat} (hm:m<r) (hp:p<r) (hk:k<c) (h:CdM r c s M) (h0:M p k≠0):CdM r c (2*s+1) (elimM (divM (swapM M m p) m k) m k):=by
 obtain ⟨d,hd,hs,hM⟩:=h
 obtain ⟨b,hb,hbs⟩:=hM p k hp hk
 have hS:∀ i j,i<r->j<c->Fd d s (swapM M m p i j):=by
  intro i j hi hj
  unfold swapM
  split
  ·exact hM p j hp hj
  ·split
   ·exact hM m j hm hj
   ·exact hM i j hi hj
 have hSk:swapM M m p m k=(b:Rat) / (d:Rat):=by unfold swapM;rw [if_pos rfl];exact hb
 have hb0:b≠0:=fun e=>h0 (by rw [hb,e];exact zHE _)
 have d1:=zGd hd
 have b1:=zGd hb0
 refine ⟨d*b,Int.mul_ne_zero hd hb0,zCM (zA8 hs hbs) (by omega),fun i j hi hj=>?_⟩
 obtain ⟨u,hu,hus⟩:=hS m j hm hj
 have hD:divM (swapM M m p) m k m j=(u:Rat) / (b:Rat):=by
  unfold divM
  rw [if_pos rfl,hu,hSk]
  grind
 unfold elimM
 split
 ·rw [hD]
  refine ⟨u*d,?_,zCM (zA8 hus hs) (by omega)⟩
  rw [Rat.intCast_mul,Rat.intCast_mul]
  grind
 ·rename_i e
  have e1:∀ j,divM (swapM M m p) m k i j=swapM M m p i j:=fun j=>by unfold divM;rw [if_neg e]
  obtain ⟨v,hv,hvs⟩:=hS i j hi hj
  obtain ⟨w,hw,hws⟩:=hS i k hi hk
  rw [e1,e1,hD,hv,hw]
  refine ⟨v*b+(-(w*u)),?_,zCM (zFe (s:=s+s) (zA8 hvs hbs) (by rw [Int.natAbs_neg];exact zA8 hws hus)) (by omega)⟩
  rw [Rat.intCast_add,Rat.intCast_neg,Rat.intCast_mul,Rat.intCast_mul,Rat.intCast_mul]
  grind
theorem CdM.mk' {r c s t:Nat} {d:Int} {M:Nat->Nat->Rat} (h0:d≠0) (h1:Bt t d) (hst:t<=s) (h:∀ i j,i<r->j<c->Fd d s (M i j)):CdM r c s M:=⟨d,h0,zCM h1 hst,h⟩
def szC (s:Nat):Nat->Nat
 | 0=>s
 | k+1=>2*szC s k+1
theorem zGD (s:Nat) {k n:Nat} (h:k<=n):szC s k<=szC s n:=by
 obtain ⟨d,rfl⟩:=Nat.exists_eq_add_of_le h
 clear h
 induction d with
 | zero=>exact Nat.le_refl _
 | succ d ih=>exact Nat.le_trans ih (show szC s (k+d)<=2*szC s (k+d)+1 by omega)
theorem Grows.cd {r c n s:Nat} :Grows r c n (szC s n) (fun k N=>CdM r c (szC s k) N) where
 sz hk h i j hi hj:=(h.sz i j hi hj).mono (zGD s hk)
 skip _ h:=h.mono (zGD s (Nat.le_succ _))
 step _ hm hp hk h h0:=h.step hm hp hk h0
end Go.Proofs.Ytlmpoindlejefaa.E
namespace Go.Proofs.Ytlmpoindlejefaa.E
open Go Go.RowKit
theorem rat_sq (x:Rat):0<=x*x:=by
 rcases Rat.le_total (a:=0) (b:=x) with h | h
 ·exact Rat.mul_nonneg h h
 ·have h':0<=-x:=by grind
  have:=Rat.mul_nonneg h' h'
  grind
theorem zIB (n:Nat) (f:Nat->Rat):0<=sm n (fun i=>f i*f i):=by
 induction n with
 | zero=>exact Rat.le_refl
 | succ n ih=>have:=rat_sq (f n);show 0<=sm n (fun i=>f i*f i)+f n*f n;grind
theorem sm_sq {n:Nat} {f:Nat->Rat} (h:sm n (fun i=>f i*f i)=0):∀ i,i<n->f i=0:=by
 induction n with
 | zero=>intro i hi;omega
 | succ n ih=>
  have h1:=zIB n f
  have h2:=rat_sq (f n)
  have h3:sm n (fun i=>f i*f i)+f n*f n=0:=h
  have h4:sm n (fun i=>f i*f i)=0:=by grind
  have h5:f n*f n=0:=by grind
  intro i hi
  by_cases e:i=n
  ·subst e;rcases Rat.mul_eq_zero.1 h5 with h6 | h6 <;> exact h6
  ·exact ih h4 i (by omega)
theorem zEd (r c:Nat) (F:Nat->Nat->Rat):sm r (fun j=>sm c (fun k=>F j k))=sm c (fun k=>sm r (fun j=>F j k)):=by
 induction r with
 | zero=>exact (zCz fun _ _=>rfl).symm
 | succ r ih=>
  show sm r (fun j=>sm c (fun k=>F j k))+sm c (fun k=>F r k)=sm c (fun k=>sm r (fun j=>F j k)+F r k)
  rw [ih,zER]
theorem zEy (n:Nat) (f g:Nat->Rat):sm n (fun i=>f i - g i)=sm n f - sm n g:=by
 induction n with
 | zero=>simp [sm,Rat.sub_self]
 | succ n ih=>rw [sm,sm,sm,ih];grind
theorem zEL (n:Nat) (c:Rat) (f:Nat->Rat):sm n (fun i=>f i*c)=sm n f*c:=by
 rw [zAW (g:=fun i=>c*f i) fun i _=>Rat.mul_comm _ _,zDl,Rat.mul_comm]
theorem orth {r c:Nat} {m:Nat->Nat->Rat} {g:Nat->Rat} (u:Nat->Rat) (h:∀ i,i<c->sm r (fun j=>m j i*g j)=0):sm r (fun j=>sm c (fun k=>m j k*u k)*g j)=0:=by
 rw [zAW (g:=fun j=>sm c (fun k=>m j k*u k*g j)) fun j _=>(zEL c (g j) _).symm,zEd]
 refine zCz fun k hk=>?_
 rw [zAW (g:=fun j=>u k*(m j k*g j)) fun j _=>by grind,zDl,h k hk,Rat.mul_zero]
theorem zGX (r:Nat) (m:Nat->Nat->Rat):∀ (c:Nat) (b:Nat->Rat),∃ x:Nat->Rat,∀ i,i<c->sm r (fun j=>m j i*(b j - sm c (fun k=>m j k*x k)))=0
 | 0,b=>⟨fun _=>0,fun i hi=>by omega⟩
 | c+1,b=>by
  obtain ⟨x1,h1⟩:=zGX r m c b
  obtain ⟨y,h2⟩:=zGX r m c (fun j=>m j c)
  generalize he:(fun j=>b j - sm c (fun k=>m j k*x1 k))=e at h1
  generalize hf:(fun j=>m j c - sm c (fun k=>m j k*y k))=f at h2
  have he':∀ j,b j=e j+sm c (fun k=>m j k*x1 k):=fun j=>by rw [<- he];grind
  have hf':∀ j,m j c=f j+sm c (fun k=>m j k*y k):=fun j=>by rw [<- hf];grind
  have h1':∀ i,i<c->sm r (fun j=>m j i*e j)=0:=fun i hi=>by rw [<- he];exact h1 i hi
  have h2':∀ i,i<c->sm r (fun j=>m j i*f j)=0:=fun i hi=>by rw [<- hf];exact h2 i hi
  have hce:sm r (fun j=>m j c*e j)=sm r (fun j=>f j*e j):=by
   rw [zAW (g:=fun j=>f j*e j+sm c (fun k=>m j k*y k)*e j) fun j _=>by rw [hf' j];grind,zER,orth y h1',Rat.add_zero]
  have hcf:sm r (fun j=>m j c*f j)=sm r (fun j=>f j*f j):=by
   rw [zAW (g:=fun j=>f j*f j+sm c (fun k=>m j k*y k)*f j) fun j _=>by rw [hf' j];grind,zER,orth y h2',Rat.add_zero]
  obtain ⟨t,ht⟩:∃ t:Rat,sm r (fun j=>f j*e j) - t*sm r (fun j=>f j*f j)=0:=by
   by_cases h0:sm r (fun j=>f j*f j)=0
   ·refine ⟨0,?_⟩
    have hz:=sm_sq h0
    rw [zCz fun j hj=>by rw [hz j hj,Rat.zero_mul]]
    grind
   ·exact ⟨sm r (fun j=>f j*e j) / sm r (fun j=>f j*f j),by grind⟩
  refine ⟨fun k=>if k=c then t else x1 k - t*y k,fun i hi=>?_⟩
  have hres:∀ j,b j - sm (c+1) (fun k=>m j k*(if k=c then t else x1 k - t*y k))=e j - t*f j:=fun j=>by
   show b j - (sm c (fun k=>m j k*(if k=c then t else x1 k - t*y k))+m j c*(if c=c then t else x1 c - t*y c))=e j - t*f j
   rw [if_pos rfl,zAW (g:=fun k=>m j k*x1 k - t*(m j k*y k)) fun k hk=>by rw [if_neg (by omega)];grind,zEy,zDl,he' j,hf' j]
   grind
  rw [zAW (g:=fun j=>m j i*e j - t*(m j i*f j)) fun j _=>by rw [hres j];grind,zEy,zDl]
  by_cases e1:i=c
  ·subst e1;rw [hce,hcf];exact ht
  ·rw [h1' i (by omega),h2' i (by omega)];grind
theorem zG3 (r c:Nat) (m:Nat->Nat->Rat) (b:Nat->Rat):∃ x:Nat->Rat,∀ i,i<c->dz c (fun k=>sm r (fun j=>m j i*m j k)) x=sm r (fun j=>m j i*b j):=by
 obtain ⟨x,h⟩:=zGX r m c b
 refine ⟨x,fun i hi=>?_⟩
 have h1:=h i hi
 rw [zAW (g:=fun j=>m j i*b j - m j i*sm c (fun k=>m j k*x k)) fun j _=>by grind,zEy] at h1
 have h2:dz c (fun k=>sm r (fun j=>m j i*m j k)) x=sm r (fun j=>m j i*sm c (fun k=>m j k*x k)):=by
  unfold dz
  rw [zAW (g:=fun k=>sm r (fun j=>m j i*m j k*x k)) fun k _=>(zEL r (x k) _).symm,<- zEd]
  exact zAW fun j _=>by rw [<- zDl];exact zAW fun k _=>by grind
 grind
def NV (n:Nat) (A:Nat->Nat->Rat) (V x:Nat->Rat):Prop:=(∀ i,i<n->dz n (A i) x=V i)/\∀ y,(∀ i,i<n->dz n (A i) y=0)->sm n (fun i=>y i*x i)=0
theorem dz_minus (n:Nat) (f x y:Nat->Rat):dz n f (fun i=>x i - y i)=dz n f x - dz n f y:=by
 unfold dz
 rw [<- zEy]
 exact zAW fun i _=>by grind
theorem NV.range {n:Nat} {A:Nat->Nat->Rat} {V z:Nat->Rat} (hs:∀ i k,A i k=A k i) (h:∀ i,i<n->dz n (A i) (fun k=>dz n (A k) z)=V i):NV n A V (fun k=>dz n (A k) z):=by
 refine ⟨h,fun y hy=>?_⟩
 have:=orth (r:=n) (c:=n) (m:=A) (g:=y) z fun i hi=>by
  have:=hy i hi
  unfold dz at this
  rw [<- this]
  exact zAW fun j _=>by rw [hs j i]
 rw [<- this]
 exact zAW fun i _=>Rat.mul_comm _ _
theorem zIT (r n:Nat) (m:Nat->Nat->Rat) (b:Nat->Rat):∃ z:Nat->Rat,∀ i,i<n->dz n (fun k=>sm n (fun l=>sm r (fun j=>m j i*m j l)*sm r (fun j=>m j l*m j k))) z=sm r (fun j=>m j i*b j):=by
 obtain ⟨x,hx⟩:=zG3 r n m b
 obtain ⟨z,hz⟩:=zG3 n n (fun i k=>sm r (fun j=>m j i*m j k)) x
 have hs:∀ i k,sm r (fun j=>m j i*m j k)=sm r (fun j=>m j k*m j i):=fun i k=>zAW fun j _=>Rat.mul_comm _ _
 refine ⟨z,fun i hi=>?_⟩
 refine Eq.trans (zAW fun k _=>congrArg (· *z k) (zAW fun l _=>congrArg (· *sm r (fun j=>m j l*m j k)) (hs i l))) ((hz i hi).trans (Eq.trans (zAW fun l _=>congrArg (· *x l) (hs l i)) (hx i hi)))
theorem zIi (n:Nat) (A:Nat->Nat->Rat) (z:Nat->Rat) (i:Nat):dz n (fun k=>sm n (fun l=>A i l*A l k)) z=dz n (A i) (fun k=>dz n (A k) z):=by
 unfold dz
 rw [zAW (g:=fun k=>sm n (fun l=>A i l*A l k*z k)) fun k _=>(zEL n (z k) _).symm,<- zEd]
 exact zAW fun l _=>by rw [<- zDl];exact zAW fun k _=>by grind
end Go.Proofs.Ytlmpoindlejefaa.E
namespace Go.Proofs.Ytlmpoindlejefaa.E
open Go Go.RowKit
def gVf (v:List zAC) (c n:Nat) (B:Nat->Rat) (i:Nat):Rat:=sm n (fun j=>mxv v c j i*B j)
theorem err_eq (v:List zAC) (r c:Nat) (B x:Nat->Rat):sm r (fun j=>(sm c (fun k=>mxv v c j k*x k) - B j)*(sm c (fun k=>mxv v c j k*x k) - B j))=errQ c (gA v c r) (gVf v c r B) (sm r (fun j=>B j*B j)) x:=by
 generalize hs:(fun j=>sm c (fun k=>mxv v c j k*x k))=s
 have hs':∀ j,sm c (fun k=>mxv v c j k*x k)=s j:=fun j=>by rw [<- hs]
 have e1:sm c (fun i=>gVf v c r B i*x i)=sm r (fun j=>B j*s j):=by
  unfold gVf
  rw [zAW (g:=fun i=>sm r (fun j=>mxv v c j i*B j*x i)) fun i _=>(zEL r (x i) _).symm,<- zEd]
  exact zAW fun j _=>by rw [<- hs' j,<- zDl];exact zAW fun k _=>by grind
 have e2:sm c (fun i=>x i*sm c (fun k=>gA v c r i k*x k))=sm r (fun j=>s j*s j):=by
  have h1:∀ i,sm c (fun k=>gA v c r i k*x k)=sm r (fun j=>mxv v c j i*s j):=fun i=>by
   unfold gA
   rw [zAW (g:=fun k=>sm r (fun j=>mxv v c j i*mxv v c j k*x k)) fun k _=>(zEL r (x k) _).symm,<- zEd]
   exact zAW fun j _=>by rw [<- hs' j,<- zDl];exact zAW fun k _=>by grind
  rw [zAW (g:=fun i=>sm r (fun j=>mxv v c j i*s j*x i)) fun i _=>by rw [h1 i,zEL,Rat.mul_comm],<- zEd]
  refine zAW fun j _=>?_
  rw [<- zEL (c:=s j) (f:=fun k=>mxv v c j k*x k) |> fun h=>(by rw [h,hs' j]:sm c (fun k=>mxv v c j k*x k*s j)=s j*s j)]
  exact zAW fun k _=>by grind
 unfold errQ
 rw [e1,e2,zAW (g:=fun j=>(B j*B j - B j*s j*2)+s j*s j) fun j _=>by rw [hs' j];grind,zER,zEy,zEL]
end Go.Proofs.Ytlmpoindlejefaa.E
namespace Go.Proofs.Ytlmpoindlejefaa.E
open Go Go.RowKit
section
variable {r c:Nat} {A:Nat->Nat->Rat} {V:Nat->Rat} {M:Nat->Nat->Rat} {piv:List Int}
theorem Red.pix_at (h:Red r (c+1) (augM c A V) M c piv) {a:Nat} (ha:a<piv.length):pix piv (nd piv a) piv.length=some a:=by
 cases hp:pix piv (nd piv a) piv.length with
 | none=>exact absurd rfl (zIC hp a ha)
 | some b=>
  obtain ⟨h1,h2⟩:=zGF hp
  rcases Nat.lt_trichotomy a b with e | e | e
  ·have:=h.inc a b h1 e;omega
  ·rw [e]
  ·have:=h.inc b a ha e;omega
theorem Red.row (h:Red r (c+1) (augM c A V) M c piv) {a:Nat} (ha:a<piv.length) (z:Nat->Rat):dz c (M a) z=z (nd piv a)+sm c (fun k=>if pix piv k piv.length=none then M a k*z k else 0):=by
 have hl:=(h.lt a ha).2
 have har:a<r:=Nat.lt_of_lt_of_le ha h.le
 unfold dz
 rw [zAW (g:=fun k=>(if k=nd piv a then z k else 0)+(if pix piv k piv.length=none then M a k*z k else 0)) fun k hk=>?_,zER,zHZ hl fun i _ hi=>if_neg hi,if_pos rfl]
 by_cases e:k=nd piv a
 ·rw [if_pos e,if_neg (by rw [e,h.pix_at ha];simp),e,h.one a ha];grind
 ·rw [if_neg e]
  cases hp:pix piv k piv.length with
  | none=>simp [Rat.zero_add]
  | some b=>
   obtain ⟨h1,h2⟩:=zGF hp
   have hab:a≠b:=fun e2=>e (by rw [<- h2,e2])
   rw [if_neg (by simp),<- h2,h.zero b h1 a har hab];grind
theorem Red.low0 (h:Red r (c+1) (augM c A V) M c piv) {i:Nat} (h1:piv.length<=i) (h2:i<r) (z:Nat->Rat):dz (c+1) (M i) z=M i c*z c:=by
 show dz c (M i) z+M i c*z c=_
 rw [show dz c (M i) z=0 from zCz fun k hk=>by rw [h.low i h1 h2 k hk,Rat.zero_mul],Rat.zero_add]
theorem Red.clean (h:Red r (c+1) (augM c A V) M c piv) {z:Nat->Rat} (hz:∀ i,i<r->dz c (A i) z=V i):∀ i,piv.length<=i->i<r->M i c=0:=by
 intro i h1 h2
 have:=(h.ker (fun k=>if k=c then -1 else z k)).1 (fun j hj=>by
  rw [zIN,zIz (y:=z) fun k hk=>by rw [if_neg (by omega)],hz j hj,if_pos rfl];grind) i h2
 rw [h.low0 h1 h2,if_pos rfl] at this
 grind
theorem Red.xsol (h:Red r (c+1) (augM c A V) M c piv) (h0:∀ i,piv.length<=i->i<r->M i c=0):∀ i,i<r->dz c (A i) (xvp M piv c piv.length)=V i:=by
 have hx:∀ k,pix piv k piv.length=none->xvp M piv c piv.length k=0:=fun k hk=>by unfold xvp;rw [hk]
 have:=(h.ker (fun k=>if k=c then -1 else xvp M piv c piv.length k)).2 fun i hi=>by
  by_cases e:i<piv.length
  ·show dz c (M i) _+M i c*_=0
   rw [zIz (y:=xvp M piv c piv.length) fun k hk=>by rw [if_neg (by omega)],h.row e,zCz fun k _=>by
    split
    ·rename_i hk;rw [hx k hk,Rat.mul_zero]
    ·rfl]
   dsimp only
   rw [if_pos rfl]
   have:xvp M piv c piv.length (nd piv i)=M i c:=by unfold xvp;rw [h.pix_at e]
   rw [this];grind
  ·rw [h.low0 (by omega) hi,h0 i (by omega) hi,Rat.zero_mul]
 intro i hi
 have:=this i hi
 rw [zIN,zIz (y:=xvp M piv c piv.length) fun k hk=>by rw [if_neg (by omega)],if_pos rfl] at this
 grind
end
end Go.Proofs.Ytlmpoindlejefaa.E
namespace Go.Proofs.Ytlmpoindlejefaa.E
open Go Go.RowKit
theorem valid.fd {x:zAC} (h:valid x):x.D≠0/\x.D.natAbs<2 ^ 40/\Fd x.D 40 (ratOf x):=by
 obtain ⟨h1,h2,h3,h4,h5⟩:=h
 exact ⟨by omega,by omega,x.N,by unfold ratOf;rw [Rat.divInt_eq_div],by omega⟩
theorem zHR (f:Nat->zAC):∀ n,(∀ k,k<n->valid (f k))->∃ d:Int,d≠0/\d.natAbs<2 ^ (40*n+1)/\∀ k,k<n->Fd d (40*n+1) (ratOf (f k))
 | 0,_=>⟨1,by decide,by decide,fun k hk=>by omega⟩
 | n+1,h=>by
  obtain ⟨d,h0,h1,h2⟩:=zHR f n fun k hk=>h k (by omega)
  obtain ⟨e0,e1,e2⟩:=(h n (Nat.lt_succ_self _)).fd
  refine ⟨d*(f n).D,Int.mul_ne_zero h0 e0,zCM (zA8 h1 e1) (by omega),fun k hk=>?_⟩
  by_cases e:k=n
  ·subst e
   have:=e2.up (e:=d) e0 h0 h1
   rw [Int.mul_comm] at this
   exact this.mono (by omega)
  ·exact ((h2 k (by omega)).up h0 e0 e1).mono (by omega)
section
variable {v b:List zAC} {r c:Nat}
theorem zHu (hr:r<=12) (hc:c<=12) (hv:∀ j i,j<r->i<c->valid (gd v (j*c+i))) (hb:∀ j,j<r->valid (gd b j)):∃ d:Int,d≠0/\Bt 12560 d/\(∀ i k,i<c->k<c->Fd d 12572 (gA v c r i k))/\∀ i,i<c->Fd d 12572 (gV v b c r i):=by
 obtain ⟨d1,a0,a1,a2⟩:=zHR (fun k=>gd v k) (r*c) fun k hk=>by
  have hc0:0<c:=Nat.pos_of_ne_zero fun e=>by rw [e] at hk;simp at hk
  have h1:k / c<r:=Nat.div_lt_of_lt_mul (by rw [Nat.mul_comm];exact hk)
  have:=hv (k / c) (k % c) h1 (Nat.mod_lt _ hc0)
  rwa [Nat.mul_comm,Nat.div_add_mod] at this
 obtain ⟨d2,b0,b1,b2⟩:=zHR (fun k=>gd b k) r hb
 have hrc:r*c<=12*12:=Nat.mul_le_mul hr hc
 have m1:∀ j i,j<r->i<c->Fd (d1*d2) 6280 (mxv v c j i):=fun j i hj hi=>((a2 _ (at_lt hj hi)).up a0 b0 b1).mono (by omega)
 have m2:∀ j,j<r->Fd (d1*d2) 6280 (ratOf (gd b j)):=fun j hj=>by
  have:=(b2 j hj).up (e:=d1) b0 a0 a1
  rw [Int.mul_comm] at this
  exact this.mono (by omega)
 have n0:d1*d2≠0:=Int.mul_ne_zero a0 b0
 have n1:Bt 6280 (d1*d2):=Bt.mono (Bt.mul a1 b1) (by omega)
 refine ⟨d1*d2*(d1*d2),Int.mul_ne_zero n0 n0,(n1.mul n1).mono (by omega),fun i k hi hk=>?_,fun i hi=>?_⟩
 ·exact (Fd.sm fun j hj=>(m1 j i hj hi).mul (m1 j k hj hk) n0 n0).mono (by omega)
 ·exact (Fd.sm fun j hj=>(m1 j i hj hi).mul (m2 j hj) n0 n0).mono (by omega)
theorem zIU (hr:r<=12) (hc:c<=12) (hv:∀ j i,j<r->i<c->valid (gd v (j*c+i))) (hb:∀ j,j<r->valid (gd b j)):CdM c (c+1) 25160 (augM c (fun i k=>sm c (fun l=>gA v c r i l*gA v c r l k)) (gV v b c r)):=by
 obtain ⟨d,h0,h1,h2,h3⟩:=zHu hr hc hv hb
 refine CdM.mk' (Int.mul_ne_zero h0 h0) (h1.mul h1) (by omega) (zIQ (P:=Fd (d*d) 25160) (fun i k hi hk=>?_) (fun i hi=>?_))
 ·exact (Fd.sm fun l hl=>(h2 i l hi hl).mul (h2 l k hl hk) h0 h0).mono (by omega)
 ·exact ((h3 i hi).up h0 h0 h1).mono (by omega)
end
theorem szC_12 {s n:Nat} (hs:s<=25160) (hn:n<=12):szC s n<=103100000:=by
 have h1:=zGD s hn
 have h2:szC s 12<=103100000:=by simp only [szC];omega
 omega
end Go.Proofs.Ytlmpoindlejefaa.E
