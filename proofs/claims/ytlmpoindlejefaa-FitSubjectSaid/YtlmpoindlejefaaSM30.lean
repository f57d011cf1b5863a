/- Joined. -/
import Derived.Test.YtlmpoindlejefaaSM27
set_option linter.unusedVariables false
set_option linter.unusedSimpArgs false
namespace Go.Proofs.Ytlmpoindlejefaa.E
open Go Go.RowKit
def Fd (d:Int) (s:Nat) (x:Rat):Prop:=∃ a:Int,x=(a:Rat) / (d:Rat)/\a.natAbs<2 ^ s
section
variable {d e:Int} {s t:Nat} {x y:Rat}
theorem int_ne {d:Int} (h:d≠0):(d:Rat)≠0:=fun e=>h (Rat.intCast_inj.1 (e.trans (by simp)))
theorem Fd.sz (h:Fd d s x) (hd:d≠0) (hs:d.natAbs<2 ^ s):Sz s x:=by
 obtain ⟨a,rfl,ha⟩:=h
 rw [<- Rat.divInt_eq_div]
 exact Sz.over hd ha hs
theorem Fd.mono (h:Fd d s x) (hst:s<=t):Fd d t x:=by
 obtain ⟨a,h1,h2⟩:=h
 exact ⟨a,h1,bits_mono h2 hst⟩
theorem rat_0div (q:Rat):((0:Int):Rat) / q=0:=by rw [Rat.div_def];simp [Rat.zero_mul]
theorem Fd.zero:Fd d s 0:=⟨0,(rat_0div _).symm,by simpa using Nat.two_pow_pos s⟩
theorem Fd.one (hd:d≠0) (hs:d.natAbs<2 ^ s):Fd d s 1:=⟨d,by have:=int_ne hd;grind,hs⟩
theorem Fd.neg (h:Fd d s x):Fd d s (-x):=by
 obtain ⟨a,rfl,ha⟩:=h
 exact ⟨-a,by rw [Rat.intCast_neg];grind,by rwa [Int.natAbs_neg]⟩
theorem Fd.add (h:Fd d s x) (k:Fd d s y):Fd d (s+1) (x+y):=by
 obtain ⟨a,rfl,ha⟩:=h
 obtain ⟨b,rfl,hb⟩:=k
 exact ⟨a+b,by rw [Rat.intCast_add,Rat.div_def,Rat.div_def,Rat.div_def,Rat.add_mul],bits_add ha hb⟩
theorem Fd.mul (h:Fd d s x) (k:Fd e t y) (hd:d≠0) (he:e≠0):Fd (d*e) (s+t) (x*y):=by
 obtain ⟨a,rfl,ha⟩:=h
 obtain ⟨b,rfl,hb⟩:=k
 have h1:=int_ne hd
 have h2:=int_ne he
 refine ⟨a*b,?_,bits_mul ha hb⟩
 rw [Rat.intCast_mul,Rat.intCast_mul]
 grind
theorem Fd.up (h:Fd d s x) (hd:d≠0) (he:e≠0) (ht:e.natAbs<2 ^ t):Fd (d*e) (s+t) x:=by
 have:=h.mul (Fd.one he ht) hd he
 rwa [Rat.mul_one] at this
theorem Fd.sm {n:Nat} {f:Nat->Rat} (h:∀ i,i<n->Fd d s (f i)):Fd d (s+n) (sm n f):=by
 induction n with
 | zero=>exact Fd.zero
 | succ n ih=>exact (show Fd d (s+n+1) (Go.Proofs.Ytlmpoindlejefaa.E.sm n f+f n) from Fd.add (ih fun i hi=>h i (by omega)) ((h n (Nat.lt_succ_self _)).mono (Nat.le_add_right _ _)))
end
def Bt (s:Nat) (d:Int):Prop:=d.natAbs<2 ^ s
theorem Bt.mono {s t:Nat} {d:Int} (h:Bt s d) (hst:s<=t):Bt t d:=bits_mono h hst
theorem Bt.mul {s t:Nat} {d e:Int} (h:Bt s d) (k:Bt t e):Bt (s+t) (d*e):=bits_mul h k
def CdM (r c s:Nat) (M:Nat->Nat->Rat):Prop:=∃ d:Int,d≠0/\d.natAbs<2 ^ s/\∀ i j,i<r->j<c->Fd d s (M i j)
theorem CdM.sz {r c s:Nat} {M:Nat->Nat->Rat} (h:CdM r c s M):∀ i j,i<r->j<c->Sz s (M i j):=fun i j hi hj=>by
 obtain ⟨d,h0,h1,h2⟩:=h
 exact (h2 i j hi hj).sz h0 h1
theorem CdM.mono {r c s t:Nat} {M:Nat->Nat->Rat} (h:CdM r c s M) (hst:s<=t):CdM r c t M:=by
 obtain ⟨d,h0,h1,h2⟩:=h
 exact ⟨d,h0,bits_mono h1 hst,fun i j hi hj=>(h2 i j hi hj).mono hst⟩
theorem CdM.step {r c s m p k:Nat} {M:Nat->Nat->Rat} (hm:m<r) (hp:p<r) (hk:k<c) (h:CdM r c s M) (h0:M p k≠0):CdM r c (2*s+1) (elimM (divM (swapM M m p) m k) m k):=by
 obtain ⟨d,hd,hs,hM⟩:=h
 obtain ⟨b,hb,hbs⟩:=hM p k hp hk
 have hS:∀ i j,i<r->j<c->Fd d s (swapM M m p i j):=by
  intro i j hi hj
  unfold swapM
  split
  ·exact hM p j hp hj
  ·split
   ·exact hM m j hm hj
   ·exact hM i j hi hj
 have hSk:swapM M m p m k=(b:Rat) / (d:Rat):=by unfold swapM;rw [if_pos rfl];exact hb
 have hb0:b≠0:=fun e=>h0 (by rw [hb,e];exact rat_0div _)
 have d1:=int_ne hd
 have b1:=int_ne hb0
 refine ⟨d*b,Int.mul_ne_zero hd hb0,bits_mono (bits_mul hs hbs) (by omega),fun i j hi hj=>?_⟩
 obtain ⟨u,hu,hus⟩:=hS m j hm hj
 have hD:divM (swapM M m p) m k m j=(u:Rat) / (b:Rat):=by
  unfold divM
  rw [if_pos rfl,hu,hSk]
  grind
 unfold elimM
 split
 ·rw [hD]
  refine ⟨u*d,?_,bits_mono (bits_mul hus hs) (by omega)⟩
  rw [Rat.intCast_mul,Rat.intCast_mul]
  grind
 ·rename_i e
  have e1:∀ j,divM (swapM M m p) m k i j=swapM M m p i j:=fun j=>by unfold divM;rw [if_neg e]
  obtain ⟨v,hv,hvs⟩:=hS i j hi hj
  obtain ⟨w,hw,hws⟩:=hS i k hi hk
  rw [e1,e1,hD,hv,hw]
  refine ⟨v*b+(-(w*u)),?_,bits_mono (bits_add (s:=s+s) (bits_mul hvs hbs) (by rw [Int.natAbs_neg];exact bits_mul hws hus)) (by omega)⟩
  rw [Rat.intCast_add,Rat.intCast_neg,Rat.intCast_mul,Rat.intCast_mul,Rat.intCast_mul]
  grind
theorem CdM.mk' {r c s t:Nat} {d:Int} {M:Nat->Nat->Rat} (h0:d≠0) (h1:Bt t d) (hst:t<=s) (h:∀ i j,i<r->j<c->Fd d s (M i j)):CdM r c s M:=⟨d,h0,bits_mono h1 hst,h⟩
def szC (s:Nat):Nat->Nat
 | 0=>s
 | k+1=>2*szC s k+1
theorem szC_mono (s:Nat) {k n:Nat} (h:k<=n):szC s k<=szC s n:=by
 obtain ⟨d,rfl⟩:=Nat.exists_eq_add_of_le h
 clear h
 induction d with
 | zero=>exact Nat.le_refl _
 | succ d ih=>exact Nat.le_trans ih (show szC s (k+d)<=2*szC s (k+d)+1 by omega)
theorem Grows.cd {r c n s:Nat} :Grows r c n (szC s n) (fun k N=>CdM r c (szC s k) N) where
 sz hk h i j hi hj:=(h.sz i j hi hj).mono (szC_mono s hk)
 skip _ h:=h.mono (szC_mono s (Nat.le_succ _))
 step _ hm hp hk h h0:=h.step hm hp hk h0
end Go.Proofs.Ytlmpoindlejefaa.E
namespace Go.Proofs.Ytlmpoindlejefaa.E
open Go Go.RowKit
end Go.Proofs.Ytlmpoindlejefaa.E
namespace Go.Proofs.Ytlmpoindlejefaa.E
open Go Go.RowKit
section
variable {r c:Nat} {A:Nat->Nat->Rat} {V:Nat->Rat} {M:Nat->Nat->Rat} {piv:List Int}
end
end Go.Proofs.Ytlmpoindlejefaa.E
namespace Go.Proofs.Ytlmpoindlejefaa.E
open Go Go.RowKit
theorem valid.fd {x:api_Rat} (h:valid x):x.D≠0/\x.D.natAbs<2 ^ 40/\Fd x.D 40 (ratOf x):=by
 obtain ⟨h1,h2,h3,h4,h5⟩:=h
 exact ⟨by omega,by omega,x.N,by unfold ratOf;rw [Rat.divInt_eq_div],by omega⟩
theorem cd_list (f:Nat->api_Rat):∀ n,(∀ k,k<n->valid (f k))->∃ d:Int,d≠0/\d.natAbs<2 ^ (40*n+1)/\∀ k,k<n->Fd d (40*n+1) (ratOf (f k))
 | 0,_=>⟨1,by decide,by decide,fun k hk=>by omega⟩
 | n+1,h=>by
  obtain ⟨d,h0,h1,h2⟩:=cd_list f n fun k hk=>h k (by omega)
  obtain ⟨e0,e1,e2⟩:=(h n (Nat.lt_succ_self _)).fd
  refine ⟨d*(f n).D,Int.mul_ne_zero h0 e0,bits_mono (bits_mul h1 e1) (by omega),fun k hk=>?_⟩
  by_cases e:k=n
  ·subst e
   have:=e2.up (e:=d) e0 h0 h1
   rw [Int.mul_comm] at this
   exact this.mono (by omega)
  ·exact ((h2 k (by omega)).up h0 e0 e1).mono (by omega)
section
variable {v b:List api_Rat} {r c:Nat}
theorem sums_cd (hr:r<=12) (hc:c<=12) (hv:∀ j i,j<r->i<c->valid (gd v (j*c+i))) (hb:∀ j,j<r->valid (gd b j)):∃ d:Int,d≠0/\Bt 12560 d/\(∀ i k,i<c->k<c->Fd d 12572 (gA v c r i k))/\∀ i,i<c->Fd d 12572 (gV v b c r i):=by
 obtain ⟨d1,a0,a1,a2⟩:=cd_list (fun k=>gd v k) (r*c) fun k hk=>by
  have hc0:0<c:=Nat.pos_of_ne_zero fun e=>by rw [e] at hk;simp at hk
  have h1:k / c<r:=Nat.div_lt_of_lt_mul (by rw [Nat.mul_comm];exact hk)
  have:=hv (k / c) (k % c) h1 (Nat.mod_lt _ hc0)
  rwa [Nat.mul_comm,Nat.div_add_mod] at this
 obtain ⟨d2,b0,b1,b2⟩:=cd_list (fun k=>gd b k) r hb
 have hrc:r*c<=12*12:=Nat.mul_le_mul hr hc
 have m1:∀ j i,j<r->i<c->Fd (d1*d2) 6280 (mxv v c j i):=fun j i hj hi=>((a2 _ (at_lt hj hi)).up a0 b0 b1).mono (by omega)
 have m2:∀ j,j<r->Fd (d1*d2) 6280 (ratOf (gd b j)):=fun j hj=>by
  have:=(b2 j hj).up (e:=d1) b0 a0 a1
  rw [Int.mul_comm] at this
  exact this.mono (by omega)
 have n0:d1*d2≠0:=Int.mul_ne_zero a0 b0
 have n1:Bt 6280 (d1*d2):=Bt.mono (Bt.mul a1 b1) (by omega)
 refine ⟨d1*d2*(d1*d2),Int.mul_ne_zero n0 n0,(n1.mul n1).mono (by omega),fun i k hi hk=>?_,fun i hi=>?_⟩
 ·exact (Fd.sm fun j hj=>(m1 j i hj hi).mul (m1 j k hj hk) n0 n0).mono (by omega)
 ·exact (Fd.sm fun j hj=>(m1 j i hj hi).mul (m2 j hj) n0 n0).mono (by omega)
end
end Go.Proofs.Ytlmpoindlejefaa.E
