/- Joined. -/
import Derived.Test.YtlmpoindlejefaaQM27
import Derived.Test.YtlmpoindlejefaaQM17
set_option linter.unusedVariables false
set_option linter.unusedSimpArgs false
namespace Go.Proofs.Ytlmpoindlejefaa.E
open Go Go.RowKit
def Fd (d:Int) (s:Nat) (x:Rat):Prop:=∃ a:Int,x=(a:Rat) / (d:Rat)/\a.natAbs<2 ^ s
section
variable {d e:Int} {s t:Nat} {x y:Rat}
theorem zHi {d:Int} (h:d≠0):(d:Rat)≠0:=fun e=>h (Rat.intCast_inj.1 (e.trans (by simp)))
theorem Fd.sz (h:Fd d s x) (hd:d≠0) (hs:d.natAbs<2 ^ s):Sz s x:=by
 obtain ⟨a,rfl,ha⟩:=h
 rw [<- Rat.divInt_eq_div]
 exact Sz.over hd ha hs
theorem Fd.mono (h:Fd d s x) (hst:s<=t):Fd d t x:=by
 obtain ⟨a,h1,h2⟩:=h
 exact ⟨a,h1,zCS h2 hst⟩
theorem zIC (q:Rat):((0:Int):Rat) / q=0:=by rw [Rat.div_def];simp [Rat.zero_mul]
theorem Fd.zero:Fd d s 0:=⟨0,(zIC _).symm,by simpa using Nat.two_pow_pos s⟩
theorem Fd.one (hd:d≠0) (hs:d.natAbs<2 ^ s):Fd d s 1:=⟨d,by have:=zHi hd;grind,hs⟩
theorem Fd.neg (h:Fd d s x):Fd d s (-x):=by
 obtain ⟨a,rfl,ha⟩:=h
 exact ⟨-a,by rw [Rat.intCast_neg];grind,by rwa [Int.natAbs_neg]⟩
theorem Fd.add (h:Fd d s x) (k:Fd d s y):Fd d (s+1) (x+y):=by
 obtain ⟨a,rfl,ha⟩:=h
 obtain ⟨b,rfl,hb⟩:=k
 exact ⟨a+b,by rw [Rat.intCast_add,Rat.div_def,Rat.div_def,Rat.div_def,Rat.add_mul],zFZ ha hb⟩
theorem Fd.sub (h:Fd d s x) (k:Fd d s y):Fd d (s+1) (x - y):=by rw [Rat.sub_eq_add_neg];exact h.add k.neg
theorem Fd.mul (h:Fd d s x) (k:Fd e t y) (hd:d≠0) (he:e≠0):Fd (d*e) (s+t) (x*y):=by
 obtain ⟨a,rfl,ha⟩:=h
 obtain ⟨b,rfl,hb⟩:=k
 have h1:=zHi hd
 have h2:=zHi he
 refine ⟨a*b,?_,zA0 ha hb⟩
 rw [Rat.intCast_mul,Rat.intCast_mul]
 grind
theorem Fd.up (h:Fd d s x) (hd:d≠0) (he:e≠0) (ht:e.natAbs<2 ^ t):Fd (d*e) (s+t) x:=by
 have:=h.mul (Fd.one he ht) hd he
 rwa [Rat.mul_one] at this
theorem Fd.sm {n:Nat} {f:Nat->Rat} (h:∀ i,i<n->Fd d s (f i)):Fd d (s+n) (sm n f):=by
 induction n with
 | zero=>exact Fd.zero
 | succ n ih=>exact (show Fd d (s+n+1) (Go.Proofs.Ytlmpoindlejefaa.E.sm n f+f n) from Fd.add (ih fun i hi=>h i (by omega)) ((h n (Nat.lt_succ_self _)).mono (Nat.le_add_right _ _)))
end
def Bt (s:Nat) (d:Int):Prop:=d.natAbs<2 ^ s
theorem Bt.mono {s t:Nat} {d:Int} (h:Bt s d) (hst:s<=t):Bt t d:=zCS h hst
theorem Bt.mul {s t:Nat} {d e:Int} (h:Bt s d) (k:Bt t e):Bt (s+t) (d*e):=zA0 h k
def CdM (r c s:Nat) (M:Nat->Nat->Rat):Prop:=∃ d:Int,d≠0/\d.natAbs<2 ^ s/\∀ i j,i<r->j<c->Fd d s (M i j)
theorem CdM.sz {r c s:Nat} {M:Nat->Nat->Rat} (h:CdM r c s M):∀ i j,i<r->j<c->Sz s (M i j):=fun i j hi hj=>by
 obtain ⟨d,h0,h1,h2⟩:=h
 exact (h2 i j hi hj).sz h0 h1
theorem CdM.mono {r c s t:Nat} {M:Nat->Nat->Rat} (h:CdM r c s M) (hst:s<=t):CdM r c t M:=by
 obtain ⟨d,h0,h1,h2⟩:=h
 exact ⟨d,h0,zCS h1 hst,fun i j hi hj=>(h2 i j hi hj).mono hst⟩
theorem CdM.step {r c s m p k:Nat} {M:Nat->Nat->Rat} (hm:m<r) (hp:p<r) (hk:k<c) (h:CdM r c s M) (h0:M p k≠0):CdM r c (2*s+1) (elimM (divM (swapM M m p) m k) m k):=by
 obtain ⟨d,hd,hs,hM⟩:=h
 obtain ⟨b,hb,hbs⟩:=hM p k hp hk
 have hS:∀ i j,i<r->j<c->Fd d s (swapM M m p i j):=by
  intro i j hi hj
  unfold swapM
  split
  ·exact hM p j hp hj
  ·split
   ·exact hM m j hm hj
   ·exact hM i j hi hj
 have hSk:swapM M m p m k=(b:Rat) / (d:Rat):=by unfold swapM;rw [if_pos rfl];exact hb
 have hb0:b≠0:=fun e=>h0 (by rw [hb,e];exact zIC _)
 have d1:=zHi hd
 have b1:=zHi hb0
 refine ⟨d*b,Int.mul_ne_zero hd hb0,zCS (zA0 hs hbs) (by omega),fun i j hi hj=>?_⟩
 obtain ⟨u,hu,hus⟩:=hS m j hm hj
 have hD:divM (swapM M m p) m k m j=(u:Rat) / (b:Rat):=by
  unfold divM
  rw [if_pos rfl,hu,hSk]
  grind
 unfold elimM
 split
 ·rw [hD]
  refine ⟨u*d,?_,zCS (zA0 hus hs) (by omega)⟩
  rw [Rat.intCast_mul,Rat.intCast_mul]
  grind
 ·rename_i e
  have e1:∀ j,divM (swapM M m p) m k i j=swapM M m p i j:=fun j=>by unfold divM;rw [if_neg e]
  obtain ⟨v,hv,hvs⟩:=hS i j hi hj
  obtain ⟨w,hw,hws⟩:=hS i k hi hk
  rw [e1,e1,hD,hv,hw]
  refine ⟨v*b+(-(w*u)),?_,zCS (zFZ (s:=s+s) (zA0 hvs hbs) (by rw [Int.natAbs_neg];exact zA0 hws hus)) (by omega)⟩
  rw [Rat.intCast_add,Rat.intCast_neg,Rat.intCast_mul,Rat.intCast_mul,Rat.intCast_mul]
  grind
theorem CdM.mk' {r c s t:Nat} {d:Int} {M:Nat->Nat->Rat} (h0:d≠0) (h1:Bt t d) (hst:t<=s) (h:∀ i j,i<r->j<c->Fd d s (M i j)):CdM r c s M:=⟨d,h0,zCS h1 hst,h⟩
def szC (s:Nat):Nat->Nat
 | 0=>s
 | k+1=>2*szC s k+1
theorem zG4 (s:Nat) {k n:Nat} (h:k<=n):szC s k<=szC s n:=by
 obtain ⟨d,rfl⟩:=Nat.exists_eq_add_of_le h
 clear h
 induction d with
 | zero=>exact Nat.le_refl _
 | succ d ih=>exact Nat.le_trans ih (show szC s (k+d)<=2*szC s (k+d)+1 by omega)
theorem Grows.cd {r c n s:Nat} :Grows r c n (szC s n) (fun k N=>CdM r c (szC s k) N) where
 sz hk h i j hi hj:=(h.sz i j hi hj).mono (zG4 s hk)
 skip _ h:=h.mono (zG4 s (Nat.le_succ _))
 step _ hm hp hk h h0:=h.step hm hp hk h0
end Go.Proofs.Ytlmpoindlejefaa.E
namespace Go.Proofs.Ytlmpoindlejefaa.E
open Go Go.RowKit
theorem rat_sq (x:Rat):0<=x*x:=by
 rcases Rat.le_total (a:=0) (b:=x) with h | h
 ·exact Rat.mul_nonneg h h
 ·have h':0<=-x:=by grind
  have:=Rat.mul_nonneg h' h'
  grind
theorem zG6 (n:Nat) (f:Nat->Rat):0<=sm n (fun i=>f i*f i):=by
 induction n with
 | zero=>exact Rat.le_refl
 | succ n ih=>have:=rat_sq (f n);show 0<=sm n (fun i=>f i*f i)+f n*f n;grind
theorem sm_sq {n:Nat} {f:Nat->Rat} (h:sm n (fun i=>f i*f i)=0):∀ i,i<n->f i=0:=by
 induction n with
 | zero=>intro i hi;omega
 | succ n ih=>
  have h1:=zG6 n f
  have h2:=rat_sq (f n)
  have h3:sm n (fun i=>f i*f i)+f n*f n=0:=h
  have h4:sm n (fun i=>f i*f i)=0:=by grind
  have h5:f n*f n=0:=by grind
  intro i hi
  by_cases e:i=n
  ·subst e;rcases Rat.mul_eq_zero.1 h5 with h6 | h6 <;> exact h6
  ·exact ih h4 i (by omega)
theorem zGK (r c:Nat) (F:Nat->Nat->Rat):sm r (fun j=>sm c (fun k=>F j k))=sm c (fun k=>sm r (fun j=>F j k)):=by
 induction r with
 | zero=>exact (zDK fun _ _=>rfl).symm
 | succ r ih=>
  show sm r (fun j=>sm c (fun k=>F j k))+sm c (fun k=>F r k)=sm c (fun k=>sm r (fun j=>F j k)+F r k)
  rw [ih,zE8]
theorem sm_sub (n:Nat) (f g:Nat->Rat):sm n (fun i=>f i - g i)=sm n f - sm n g:=by
 induction n with
 | zero=>simp [sm,Rat.sub_self]
 | succ n ih=>rw [sm,sm,sm,ih];grind
theorem zEy (n:Nat) (c:Rat) (f:Nat->Rat):sm n (fun i=>f i*c)=sm n f*c:=by
 rw [zAm (g:=fun i=>c*f i) fun i _=>Rat.mul_comm _ _,zGJ,Rat.mul_comm]
end Go.Proofs.Ytlmpoindlejefaa.E
namespace Go.Proofs.Ytlmpoindlejefaa.E
open Go Go.RowKit
section
variable {r c:Nat} {A:Nat->Nat->Rat} {V:Nat->Rat} {M:Nat->Nat->Rat} {piv:List Int}
end
end Go.Proofs.Ytlmpoindlejefaa.E
namespace Go.Proofs.Ytlmpoindlejefaa.E
open Go Go.RowKit
theorem valid.fd {x:zn} (h:valid x):x.D≠0/\x.D.natAbs<2 ^ 40/\Fd x.D 40 (ratOf x):=by
 obtain ⟨h1,h2,h3,h4,h5⟩:=h
 exact ⟨by omega,by omega,x.N,by unfold ratOf;rw [Rat.divInt_eq_div],by omega⟩
theorem zH7 (f:Nat->zn):∀ n,(∀ k,k<n->valid (f k))->∃ d:Int,d≠0/\d.natAbs<2 ^ (40*n+1)/\∀ k,k<n->Fd d (40*n+1) (ratOf (f k))
 | 0,_=>⟨1,by decide,by decide,fun k hk=>by omega⟩
 | n+1,h=>by
  obtain ⟨d,h0,h1,h2⟩:=zH7 f n fun k hk=>h k (by omega)
  obtain ⟨e0,e1,e2⟩:=(h n (Nat.lt_succ_self _)).fd
  refine ⟨d*(f n).D,Int.mul_ne_zero h0 e0,zCS (zA0 h1 e1) (by omega),fun k hk=>?_⟩
  by_cases e:k=n
  ·subst e
   have:=e2.up (e:=d) e0 h0 h1
   rw [Int.mul_comm] at this
   exact this.mono (by omega)
  ·exact ((h2 k (by omega)).up h0 e0 e1).mono (by omega)
section
variable {v b:List zn} {r c:Nat}
end
end Go.Proofs.Ytlmpoindlejefaa.E
namespace Go.Proofs.Ytlmpoindlejefaa.E
open Go Go.RowKit
def endV (k u:Nat) (A B:Nat->Nat->Rat) (x w:Nat->Rat):Nat->Nat->Rat
 | 0=>x
 | t+1=>fun i=>sm k (fun j=>A i j*endV k u A B x w t j)+sm u (fun j=>B i j*w (t*u+j))
def unitV (c:Nat):Nat->Rat:=fun i=>if i=c then 1 else 0
def plG (k u:Nat) (A B:Nat->Nat->Rat) (t i c:Nat):Rat:=endV k u A B (fun _=>0) (unitV c) t i
theorem zIM {k u N:Nat} {A B:Nat->Nat->Rat} {x w:Nat->Rat} :∀ t,t*u<=N->∀ i,endV k u A B x w t i=endV k u A B x (fun _=>0) t i+sm N (fun c=>plG k u A B t i c*w c)
 | 0,_,i=>by
  rw [show sm N (fun c=>plG k u A B 0 i c*w c)=0 from zDK fun c _=>by unfold plG endV;grind,Rat.add_zero]
  rfl
 | t+1,ht,i=>by
  have ht':t*u+u<=N:=by rw [Nat.add_mul,Nat.one_mul] at ht;exact ht
  have ih:=zIM (k:=k) (u:=u) (N:=N) (A:=A) (B:=B) (x:=x) (w:=w) t (by omega)
  have e1:sm N (fun c=>sm k (fun j=>A i j*plG k u A B t j c)*w c)=sm k (fun j=>A i j*sm N (fun c=>plG k u A B t j c*w c)):=by
   rw [zAm (g:=fun c=>sm k (fun j=>A i j*plG k u A B t j c*w c)) fun c _=>(zEy k (w c) _).symm,zGK]
   exact zAm fun j _=>by rw [<- zGJ];exact zAm fun c _=>by grind
  have e2:sm N (fun c=>sm u (fun j=>B i j*unitV c (t*u+j))*w c)=sm u (fun j=>B i j*w (t*u+j)):=by
   rw [zAm (g:=fun c=>sm u (fun j=>B i j*unitV c (t*u+j)*w c)) fun c _=>(zEy u (w c) _).symm,zGK]
   refine zAm fun j hj=>?_
   rw [zGx (k:=t*u+j) (by omega) (fun c _ hc=>by unfold unitV;rw [if_neg (fun e=>hc e.symm)];grind)]
   unfold unitV;rw [if_pos rfl];grind
  have e3:sm N (fun c=>plG k u A B (t+1) i c*w c)=sm N (fun c=>sm k (fun j=>A i j*plG k u A B t j c)*w c)+sm N (fun c=>sm u (fun j=>B i j*unitV c (t*u+j))*w c):=by
   rw [<- zE8]
   exact zAm fun c _=>by unfold plG;rw [endV];grind
  have e4:sm u (fun j=>B i j*(0:Rat))=0:=zDK fun j _=>by grind
  rw [e3,e1,e2,endV,endV]
  dsimp only
  rw [e4,zAm (g:=fun j=>A i j*endV k u A B x (fun _=>0) t j+A i j*sm N (fun c=>plG k u A B t j c*w c)) fun j _=>by rw [ih j];grind,zE8]
  grind
theorem zIb {u t c:Nat} {f:Nat->Rat} (h:c<(t+1)*u):sm u (fun j=>f j*unitV c (t*u+j))=if t*u<=c then f (c - t*u) else 0:=by
 rw [Nat.add_mul,Nat.one_mul] at h
 by_cases e:t*u<=c
 ·rw [if_pos e,zGx (k:=c - t*u) (by omega) (fun j _ hj=>by unfold unitV;rw [if_neg (by omega)];grind)]
  unfold unitV;rw [if_pos (by omega)];grind
 ·rw [if_neg e]
  exact zDK fun j _=>by unfold unitV;rw [if_neg (by omega)];grind
theorem sm_unit0 {u t c:Nat} {f:Nat->Rat} (h:(t+1)*u<=c):sm u (fun j=>f j*unitV c (t*u+j))=0:=by
 rw [Nat.add_mul,Nat.one_mul] at h
 exact zDK fun j hj=>by unfold unitV;rw [if_neg (by omega)];grind
def plM (k:Nat) (G:Nat->Nat->Rat) (wt:Rat) (c e:Nat):Rat:=sm k (fun i=>G i c*G i e)+(if c=e then wt else 0)
def plV (k:Nat) (G:Nat->Nat->Rat) (L:Nat->Rat) (c:Nat):Rat:=sm k (fun i=>G i c*L i)
def plq (k:Nat) (L:Nat->Rat):Rat:=sm k (fun i=>L i*L i)
theorem err_gen (F:Nat->Nat->Rat) (r c:Nat) (B x:Nat->Rat):sm r (fun j=>(sm c (fun k=>F j k*x k) - B j)*(sm c (fun k=>F j k*x k) - B j))=errQ c (fun i k=>sm r (fun j=>F j i*F j k)) (fun i=>sm r (fun j=>F j i*B j)) (sm r (fun j=>B j*B j)) x:=by
 generalize hs:(fun j=>sm c (fun k=>F j k*x k))=s
 have hs':∀ j,sm c (fun k=>F j k*x k)=s j:=fun j=>by rw [<- hs]
 have e1:sm c (fun i=>sm r (fun j=>F j i*B j)*x i)=sm r (fun j=>B j*s j):=by
  rw [zAm (g:=fun i=>sm r (fun j=>F j i*B j*x i)) fun i _=>(zEy r (x i) _).symm,<- zGK]
  exact zAm fun j _=>by rw [<- hs' j,<- zGJ];exact zAm fun k _=>by grind
 have e2:sm c (fun i=>x i*sm c (fun k=>sm r (fun j=>F j i*F j k)*x k))=sm r (fun j=>s j*s j):=by
  have h1:∀ i,sm c (fun k=>sm r (fun j=>F j i*F j k)*x k)=sm r (fun j=>F j i*s j):=fun i=>by
   rw [zAm (g:=fun k=>sm r (fun j=>F j i*F j k*x k)) fun k _=>(zEy r (x k) _).symm,<- zGK]
   exact zAm fun j _=>by rw [<- hs' j,<- zGJ];exact zAm fun k _=>by grind
  rw [zAm (g:=fun i=>sm r (fun j=>F j i*s j*x i)) fun i _=>by rw [h1 i,zEy,Rat.mul_comm],<- zGK]
  refine zAm fun j _=>?_
  rw [<- zEy (c:=s j) (f:=fun k=>F j k*x k) |> fun h=>(by rw [h,hs' j]:sm c (fun k=>F j k*x k*s j)=s j*s j)]
  exact zAm fun k _=>by grind
 unfold errQ
 rw [e1,e2,zAm (g:=fun j=>(B j*B j - B j*s j*2)+s j*s j) fun j _=>by rw [hs' j];grind,zE8,sm_sub,zEy]
theorem pl_err (k N:Nat) (G:Nat->Nat->Rat) (L:Nat->Rat) (wt:Rat) (z:Nat->Rat):sm k (fun i=>(sm N (fun c=>G i c*z c) - L i)*(sm N (fun c=>G i c*z c) - L i))+wt*sm N (fun c=>z c*z c)=errQ N (plM k G wt) (plV k G L) (plq k L) z:=by
 rw [err_gen]
 unfold errQ plV plq
 have e:sm N (fun i=>z i*sm N (fun e=>plM k G wt i e*z e))=sm N (fun i=>z i*sm N (fun e=>sm k (fun j=>G j i*G j e)*z e))+wt*sm N (fun c=>z c*z c):=by
  rw [<- zGJ,<- zE8]
  refine zAm fun i hi=>?_
  rw [zAm (g:=fun e=>sm k (fun j=>G j i*G j e)*z e+(if i=e then wt else 0)*z e) fun e _=>by unfold plM;grind,zE8,zGx (n:=N) (k:=i) (f:=fun e=>(if i=e then wt else 0)*z e) hi fun e _ he=>by rw [if_neg (fun h=>he h.symm)];grind]
  rw [if_pos rfl]
  grind
 rw [e]
 grind
theorem pl_pos {k N:Nat} {G:Nat->Nat->Rat} {wt:Rat} (hw:0<wt) {z:Nat->Rat} (h:∀ i,i<N->dz N (plM k G wt i) z=0):∀ i,i<N->z i=0:=by
 have e:=pl_err k N G (fun _=>0) wt z
 have e1:errQ N (plM k G wt) (plV k G fun _=>0) (plq k fun _=>0) z=0:=by
  unfold errQ
  rw [zDK (f:=fun i=>plV k G (fun _=>0) i*z i) fun i _=>by unfold plV;rw [zDK fun j _=>by grind];grind,zDK (f:=fun i=>z i*sm N (fun k_1=>plM k G wt i k_1*z k_1)) fun i hi=>by have:=h i hi;unfold dz at this;rw [this];grind]
  unfold plq
  rw [zDK fun j _=>by grind]
  grind
 rw [e1] at e
 have n1:=zG6 k (fun i=>sm N (fun c=>G i c*z c) - 0)
 have n2:=zG6 N z
 have n3:=Rat.mul_nonneg (Rat.le_of_lt hw) n2
 have n4:wt*sm N (fun c=>z c*z c)=0:=by grind
 refine sm_sq ?_
 rcases Rat.mul_eq_zero.1 n4 with h0 | h0
 ·rw [h0] at hw;exact absurd hw (Rat.lt_irrefl)
 ·exact h0
theorem Bt.pow {a:Nat} {d:Int} (h:Bt a d):∀ t:Nat,Bt (t*a+1) (d ^ t)
 | 0=>by unfold Bt;simp
 | t+1=>by
  have:=(Bt.pow h t).mul h
  rw [Int.pow_succ]
  exact this.mono (by rw [Nat.add_mul];omega)
theorem zHV {d:Int} (h:d≠0):∀ t:Nat,d ^ t≠0
 | 0=>by simp
 | t+1=>by rw [Int.pow_succ];exact Int.mul_ne_zero (zHV h t) h
theorem zH5 {k u N s q:Nat} {A B:Nat->Nat->Rat} {x w:Nat->Rat} {dA dx dB dw:Int} (hk:k<=12) (hu:u<=12) (a0:dA≠0) (x0:dx≠0) (b0:dB≠0) (w0:dw≠0) (bA:Bt 5761 dA) (bx:Bt s dx) (bB:Bt 5761 dB) (bw:Bt q dw)
  (fA:∀ i j,i<k->j<k->Fd dA 5761 (A i j)) (fx:∀ i,i<k->Fd dx s (x i)) (fB:∀ i j,i<k->j<u->Fd dB 5761 (B i j)) (fw:∀ c,c<N->Fd dw q (w c)) :
  ∀ t,t*u<=N->∀ i,i<k->Fd (dA ^ t*dx*(dB*dw)) (t*5774+s+q+5773) (endV k u A B x w t i)
 | 0,_,i,hi=>by
  have:=(fx i hi).up x0 (Int.mul_ne_zero b0 w0) (bB.mul bw)
  rw [endV,Int.pow_zero,Int.one_mul]
  exact this.mono (by omega)
 | t+1,ht,i,hi=>by
  have ht':t*u+u<=N:=by rw [Nat.add_mul,Nat.one_mul] at ht;exact ht
  have ih:=zH5 hk hu a0 x0 b0 w0 bA bx bB bw fA fx fB fw t (by omega)
  have d0:dA ^ t*dx*(dB*dw)≠0:=Int.mul_ne_zero (Int.mul_ne_zero (zHV a0 t) x0) (Int.mul_ne_zero b0 w0)
  have h1:Fd (dA*(dA ^ t*dx*(dB*dw))) (5761+(t*5774+s+q+5773)+k) (sm k (fun j=>A i j*endV k u A B x w t j)):=Fd.sm fun j hj=>(fA i j hi hj).mul (ih j hj) a0 d0
  have h2:Fd (dB*dw) (5761+q+u) (sm u (fun j=>B i j*w (t*u+j))):=Fd.sm fun j hj=>(fB i j hi hj).mul (fw _ (by omega)) b0 w0
  have h3:=h2.up (Int.mul_ne_zero b0 w0) (Int.mul_ne_zero (zHV a0 (t+1)) x0) ((bA.pow (t+1)).mul bx)
  have e1:dA*(dA ^ t*dx*(dB*dw))=dA ^ (t+1)*dx*(dB*dw):=by rw [Int.pow_succ];grind
  have e2:dB*dw*(dA ^ (t+1)*dx)=dA ^ (t+1)*dx*(dB*dw):=by grind
  rw [e1] at h1
  rw [e2] at h3
  rw [endV]
  exact ((h1.mono (t:=(t+1)*5774+s+q+5772) (by omega)).add (h3.mono (by omega))).mono (by omega)
theorem zHG {v:List zn} {r c:Nat} (hr:r<=12) (hc:c<=12) (hl:v.length=r*c) (hv:∀ j i,j<r->i<c->valid (gd v (j*c+i))) (hall:∀ r ∈ v,valid r):∃ d:Int,d≠0/\Bt 5761 d/\∀ j i,j<r->i<c->Fd d 5761 (mxv v c j i):=by
 have hn:r*c<=144:=Nat.mul_le_mul hr hc
 obtain ⟨d,d0,d1,d2⟩:=zH7 (gd v) (r*c) fun k hk=>(zBs v).1 hall k (by omega)
 exact ⟨d,d0,Bt.mono (s:=40*(r*c)+1) d1 (by omega),fun j i hj hi=>(d2 _ (at_lt hj hi)).mono (by omega)⟩
theorem zIj {l:List zn} {k:Nat} (hk:k<=12) (hv:∀ j,j<k->valid (gd l j)):∃ d:Int,d≠0/\Bt 481 d/\∀ j,j<k->Fd d 481 (ratOf (gd l j)):=by
 obtain ⟨d,d0,d1,d2⟩:=zH7 (gd l) k hv
 exact ⟨d,d0,Bt.mono (s:=40*k+1) d1 (by omega),fun j hj=>(d2 j hj).mono (by omega)⟩
theorem szC_pl {s n:Nat} (hs:s<=123300) (hn:n<=12):szC s n<=505100000:=by
 have h1:=zG4 s hn
 have h2:szC s 12<=505100000:=by simp only [szC];omega
 omega
theorem pl_cdM {k N:Nat} {G:Nat->Nat->Rat} {L:Nat->Rat} {wt:Rat} {dG dL dW:Int} (hk:k<=12) (g0:dG≠0) (l0:dL≠0) (w0:dW≠0) (bG:Bt 40900 dG) (bL:Bt 41400 dL) (bW:Bt 40 dW) (fG:∀ i c,i<k->c<N->Fd dG 40900 (G i c)) (fL:∀ i,i<k->Fd dL 41400 (L i)) (fW:Fd dW 40 wt):CdM N (N+1) 123300 (augM N (plM k G wt) (plV k G L)):=by
 have gg0:=Int.mul_ne_zero g0 g0
 refine CdM.mk' (d:=(dG*dG)*(dL*dW)) (t:=123300) (Int.mul_ne_zero gg0 (Int.mul_ne_zero l0 w0)) (((bG.mul bG).mul (bL.mul bW)).mono (by omega)) (by omega) fun i j hi hj=>?_
 unfold augM
 split
 ·have h1:Fd (dG*dL) (40900+41400+k) (plV k G L i):=Fd.sm fun a ha=>(fG a i ha hi).mul (fL a ha) g0 l0
  have h2:=h1.up (Int.mul_ne_zero g0 l0) (Int.mul_ne_zero g0 w0) (bG.mul bW)
  rw [show dG*dL*(dG*dW)=dG*dG*(dL*dW) by grind] at h2
  exact h2.mono (by omega)
 ·have hjN:j<N:=by omega
  have h1:Fd (dG*dG) (40900+40900+k) (sm k (fun a=>G a i*G a j)):=Fd.sm fun a ha=>(fG a i ha hi).mul (fG a j ha hjN) g0 g0
  have h2:=h1.up gg0 (Int.mul_ne_zero l0 w0) (bL.mul bW)
  have h3:Fd dW 40 (if i=j then wt else 0):=by
   split
   ·exact fW
   ·exact Fd.zero
  have h4:=h3.up w0 (Int.mul_ne_zero gg0 l0) ((bG.mul bG).mul bL)
  rw [show dW*(dG*dG*dL)=dG*dG*(dL*dW) by grind] at h4
  unfold plM
  exact ((h2.mono (t:=123299) (by omega)).add (h4.mono (by omega))).mono (by omega)
end Go.Proofs.Ytlmpoindlejefaa.E
