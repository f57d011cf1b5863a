/- Joined. -/
import Derived.Test.YtlmpoindlejefaaGreatAM25
set_option linter.unusedVariables false
set_option linter.unusedSimpArgs false
namespace Go.Proofs.YtlmpoindlejefaaGreat.E
open Go Go.RowKit
def Fd (d:Int) (s:Nat) (x:Rat):Prop:=∃ a:Int,x=(a:Rat) / (d:Rat)/\a.natAbs<2 ^ s
section
variable {d e:Int} {s t:Nat} {x y:Rat}
theorem int_ne {d:Int} (h:d≠0):(d:Rat)≠0:=fun e=>h (Rat.intCast_inj.1 (e.trans (by simp)))
theorem Fd.sz (h:Fd d s x) (hd:d≠0) (hs:d.natAbs<2 ^ s):Sz s x:=by
 obtain ⟨a,rfl,ha⟩:=h
 rw [<- Rat.divInt_eq_div]
 exact Sz.over hd ha hs
theorem Fd.mono (h:Fd d s x) (hst:s<=t):Fd d t x:=by
 obtain ⟨a,h1,h2⟩:=h
 exact ⟨a,h1,bits_mono h2 hst⟩
theorem rat_0div (q:Rat):((0:Int):Rat) / q=0:=by rw [Rat.div_def];simp [Rat.zero_mul]
theorem Fd.zero:Fd d s 0:=⟨0,(rat_0div _).symm,by simpa using Nat.two_pow_pos s⟩
theorem Fd.one (hd:d≠0) (hs:d.natAbs<2 ^ s):Fd d s 1:=⟨d,by have:=int_ne hd;grind,hs⟩
theorem Fd.add (h:Fd d s x) (k:Fd d s y):Fd d (s+1) (x+y):=by
 obtain ⟨a,rfl,ha⟩:=h
 obtain ⟨b,rfl,hb⟩:=k
 exact ⟨a+b,by rw [Rat.intCast_add,Rat.div_def,Rat.div_def,Rat.div_def,Rat.add_mul],bits_add ha hb⟩
theorem Fd.mul (h:Fd d s x) (k:Fd e t y) (hd:d≠0) (he:e≠0):Fd (d*e) (s+t) (x*y):=by
 obtain ⟨a,rfl,ha⟩:=h
 obtain ⟨b,rfl,hb⟩:=k
 have h1:=int_ne hd
 have h2:=int_ne he
 refine ⟨a*b,?_,bits_mul ha hb⟩
 rw [Rat.intCast_mul,Rat.intCast_mul]
 grind
theorem Fd.up (h:Fd d s x) (hd:d≠0) (he:e≠0) (ht:e.natAbs<2 ^ t):Fd (d*e) (s+t) x:=by
 have:=h.mul (Fd.one he ht) hd he
 rwa [Rat.mul_one] at this
theorem Fd.sm {n:Nat} {f:Nat->Rat} (h:∀ i,i<n->Fd d s (f i)):Fd d (s+n) (sm n f):=by
 induction n with
 | zero=>exact Fd.zero
 | succ n ih=>exact (show Fd d (s+n+1) (Go.Proofs.YtlmpoindlejefaaGreat.E.sm n f+f n) from Fd.add (ih fun i hi=>h i (by omega)) ((h n (Nat.lt_succ_self _)).mono (Nat.le_add_right _ _)))
end
def Bt (s:Nat) (d:Int):Prop:=d.natAbs<2 ^ s
theorem Bt.mono {s t:Nat} {d:Int} (h:Bt s d) (hst:s<=t):Bt t d:=bits_mono h hst
theorem Bt.mul {s t:Nat} {d e:Int} (h:Bt s d) (k:Bt t e):Bt (s+t) (d*e):=bits_mul h k
def CdM (r c s:Nat) (M:Nat->Nat->Rat):Prop:=∃ d:Int,d≠0/\d.natAbs<2 ^ s/\∀ i j,i<r->j<c->Fd d s (M i j)
theorem CdM.sz {r c s:Nat} {M:Nat->Nat->Rat} (h:CdM r c s M):∀ i j,i<r->j<c->Sz s (M i j):=fun i j hi hj=>by
 obtain ⟨d,h0,h1,h2⟩:=h
 exact (h2 i j hi hj).sz h0 h1
theorem CdM.mono {r c s t:Nat} {M:Nat->Nat->Rat} (h:CdM r c s M) (hst:s<=t):CdM r c t M:=by
 obtain ⟨d,h0,h1,h2⟩:=h
 exact ⟨d,h0,bits_mono h1 hst,fun i j hi hj=>(h2 i j hi hj).mono hst⟩
theorem CdM.step {r c s m p k:Nat} {M:Nat->Nat->Rat} (hm:m<r) (hp:p<r) (hk:k<c) (h:CdM r c s M) (h0:M p k≠0):CdM r c (2*s+1) (elimM (divM (swapM M m p) m k) m k):=by
 obtain ⟨d,hd,hs,hM⟩:=h
 obtain ⟨b,hb,hbs⟩:=hM p k hp hk
 have hS:∀ i j,i<r->j<c->Fd d s (swapM M m p i j):=by
  intro i j hi hj
  unfold swapM
  split
  ·exact hM p j hp hj
  ·split
   ·exact hM m j hm hj
   ·exact hM i j hi hj
 have hSk:swapM M m p m k=(b:Rat) / (d:Rat):=by unfold swapM;rw [if_pos rfl];exact hb
 have hb0:b≠0:=fun e=>h0 (by rw [hb,e];exact rat_0div _)
 have d1:=int_ne hd
 have b1:=int_ne hb0
 refine ⟨d*b,Int.mul_ne_zero hd hb0,bits_mono (bits_mul hs hbs) (by omega),fun i j hi hj=>?_⟩
 obtain ⟨u,hu,hus⟩:=hS m j hm hj
 have hD:divM (swapM M m p) m k m j=(u:Rat) / (b:Rat):=by
  unfold divM
  rw [if_pos rfl,hu,hSk]
  grind
 unfold elimM
 split
 ·rw [hD]
  refine ⟨u*d,?_,bits_mono (bits_mul hus hs) (by omega)⟩
  rw [Rat.intCast_mul,Rat.intCast_mul]
  grind
 ·rename_i e
  have e1:∀ j,divM (swapM M m p) m k i j=swapM M m p i j:=fun j=>by unfold divM;rw [if_neg e]
  obtain ⟨v,hv,hvs⟩:=hS i j hi hj
  obtain ⟨w,hw,hws⟩:=hS i k hi hk
  rw [e1,e1,hD,hv,hw]
  refine ⟨v*b+(-(w*u)),?_,bits_mono (bits_add (s:=s+s) (bits_mul hvs hbs) (by rw [Int.natAbs_neg];exact bits_mul hws hus)) (by omega)⟩
  rw [Rat.intCast_add,Rat.intCast_neg,Rat.intCast_mul,Rat.intCast_mul,Rat.intCast_mul]
  grind
theorem CdM.mk' {r c s t:Nat} {d:Int} {M:Nat->Nat->Rat} (h0:d≠0) (h1:Bt t d) (hst:t<=s) (h:∀ i j,i<r->j<c->Fd d s (M i j)):CdM r c s M:=⟨d,h0,bits_mono h1 hst,h⟩
def szC (s:Nat):Nat->Nat
 | 0=>s
 | k+1=>2*szC s k+1
theorem szC_mono (s:Nat) {k n:Nat} (h:k<=n):szC s k<=szC s n:=by
 obtain ⟨d,rfl⟩:=Nat.exists_eq_add_of_le h
 clear h
 induction d with
 | zero=>exact Nat.le_refl _
 | succ d ih=>exact Nat.le_trans ih (show szC s (k+d)<=2*szC s (k+d)+1 by omega)
theorem Grows.cd {r c n s:Nat} :Grows r c n (szC s n) (fun k N=>CdM r c (szC s k) N) where
 sz hk h i j hi hj:=(h.sz i j hi hj).mono (szC_mono s hk)
 skip _ h:=h.mono (szC_mono s (Nat.le_succ _))
 step _ hm hp hk h h0:=h.step hm hp hk h0
end Go.Proofs.YtlmpoindlejefaaGreat.E
namespace Go.Proofs.YtlmpoindlejefaaGreat.E
open Go Go.RowKit
theorem sm_sub (n:Nat) (f g:Nat->Rat):sm n (fun i=>f i - g i)=sm n f - sm n g:=by
 induction n with
 | zero=>simp [sm,Rat.sub_self]
 | succ n ih=>rw [sm,sm,sm,ih];grind
theorem dz_minus (n:Nat) (f x y:Nat->Rat):dz n f (fun i=>x i - y i)=dz n f x - dz n f y:=by
 unfold dz
 rw [<- sm_sub]
 exact sm_congr fun i _=>by grind
end Go.Proofs.YtlmpoindlejefaaGreat.E
namespace Go.Proofs.YtlmpoindlejefaaGreat.E
open Go Go.RowKit
section
variable {r c:Nat} {A:Nat->Nat->Rat} {V:Nat->Rat} {M:Nat->Nat->Rat} {piv:List Int}
theorem Red.pix_at (h:Red r (c+1) (augM c A V) M c piv) {a:Nat} (ha:a<piv.length):pix piv (nd piv a) piv.length=some a:=by
 cases hp:pix piv (nd piv a) piv.length with
 | none=>exact absurd rfl (pix_none hp a ha)
 | some b=>
  obtain ⟨h1,h2⟩:=pix_some hp
  rcases Nat.lt_trichotomy a b with e | e | e
  ·have:=h.inc a b h1 e;omega
  ·rw [e]
  ·have:=h.inc b a ha e;omega
theorem Red.row (h:Red r (c+1) (augM c A V) M c piv) {a:Nat} (ha:a<piv.length) (z:Nat->Rat):dz c (M a) z=z (nd piv a)+sm c (fun k=>if pix piv k piv.length=none then M a k*z k else 0):=by
 have hl:=(h.lt a ha).2
 have har:a<r:=Nat.lt_of_lt_of_le ha h.le
 unfold dz
 rw [sm_congr (g:=fun k=>(if k=nd piv a then z k else 0)+(if pix piv k piv.length=none then M a k*z k else 0)) fun k hk=>?_,sm_add,sm_one hl fun i _ hi=>if_neg hi,if_pos rfl]
 by_cases e:k=nd piv a
 ·rw [if_pos e,if_neg (by rw [e,h.pix_at ha];simp),e,h.one a ha];grind
 ·rw [if_neg e]
  cases hp:pix piv k piv.length with
  | none=>simp [Rat.zero_add]
  | some b=>
   obtain ⟨h1,h2⟩:=pix_some hp
   have hab:a≠b:=fun e2=>e (by rw [<- h2,e2])
   rw [if_neg (by simp),<- h2,h.zero b h1 a har hab];grind
theorem Red.low0 (h:Red r (c+1) (augM c A V) M c piv) {i:Nat} (h1:piv.length<=i) (h2:i<r) (z:Nat->Rat):dz (c+1) (M i) z=M i c*z c:=by
 show dz c (M i) z+M i c*z c=_
 rw [show dz c (M i) z=0 from sm_zero fun k hk=>by rw [h.low i h1 h2 k hk,Rat.zero_mul],Rat.zero_add]
theorem Red.clean (h:Red r (c+1) (augM c A V) M c piv) {z:Nat->Rat} (hz:∀ i,i<r->dz c (A i) z=V i):∀ i,piv.length<=i->i<r->M i c=0:=by
 intro i h1 h2
 have:=(h.ker (fun k=>if k=c then -1 else z k)).1 (fun j hj=>by
  rw [dz_aug,dz_ext (y:=z) fun k hk=>by rw [if_neg (by omega)],hz j hj,if_pos rfl];grind) i h2
 rw [h.low0 h1 h2,if_pos rfl] at this
 grind
theorem Red.xsol (h:Red r (c+1) (augM c A V) M c piv) (h0:∀ i,piv.length<=i->i<r->M i c=0):∀ i,i<r->dz c (A i) (xvp M piv c piv.length)=V i:=by
 have hx:∀ k,pix piv k piv.length=none->xvp M piv c piv.length k=0:=fun k hk=>by unfold xvp;rw [hk]
 have:=(h.ker (fun k=>if k=c then -1 else xvp M piv c piv.length k)).2 fun i hi=>by
  by_cases e:i<piv.length
  ·show dz c (M i) _+M i c*_=0
   rw [dz_ext (y:=xvp M piv c piv.length) fun k hk=>by rw [if_neg (by omega)],h.row e,sm_zero fun k _=>by
    split
    ·rename_i hk;rw [hx k hk,Rat.mul_zero]
    ·rfl]
   dsimp only
   rw [if_pos rfl]
   have:xvp M piv c piv.length (nd piv i)=M i c:=by unfold xvp;rw [h.pix_at e]
   rw [this];grind
  ·rw [h.low0 (by omega) hi,h0 i (by omega) hi,Rat.zero_mul]
 intro i hi
 have:=this i hi
 rw [dz_aug,dz_ext (y:=xvp M piv c piv.length) fun k hk=>by rw [if_neg (by omega)],if_pos rfl] at this
 grind
theorem Red.hom (h:Red r (c+1) (augM c A V) M c piv) (y:Nat->Rat):(∀ i,i<r->dz c (A i) y=0) ↔ ∀ a,a<piv.length->y (nd piv a)+sm c (fun k=>if pix piv k piv.length=none then M a k*y k else 0)=0:=by
 have e1:=h.ker (fun k=>if k=c then 0 else y k)
 have e2:∀ N:Nat->Rat,dz c N (fun k=>if k=c then 0 else y k)=dz c N y:=fun N=>dz_ext fun k hk=>by rw [if_neg (by omega)]
 constructor
 ·intro hy a ha
  have:=e1.1 (fun i hi=>by rw [dz_aug,e2,hy i hi,if_pos rfl];grind) a (Nat.lt_of_lt_of_le ha h.le)
  change dz c (M a) _+M a c*_=0 at this
  rw [e2] at this
  dsimp only at this
  rw [if_pos rfl,h.row ha] at this
  grind
 ·intro hy i hi
  have:=e1.2 (fun j hj=>by
   by_cases e:j<piv.length
   ·show dz c (M j) _+M j c*_=0
    rw [e2]
    dsimp only
    rw [if_pos rfl,h.row e,hy j e];grind
   ·rw [h.low0 (by omega) hj,if_pos rfl,Rat.mul_zero]) i hi
  rw [dz_aug,e2,if_pos rfl] at this
  grind
theorem kv_self (j:Nat):kv M piv j j=1:=by unfold kv kvp;rw [if_pos rfl]
theorem kv_free {j q:Nat} (hq:pix piv q piv.length=none) (hne:q≠j):kv M piv j q=0:=by unfold kv kvp;rw [if_neg hne,hq]
theorem Red.kv_piv (h:Red r (c+1) (augM c A V) M c piv) {j a:Nat} (ha:a<piv.length) (hj:pix piv j piv.length=none):kv M piv j (nd piv a)= - M a j:=by
 unfold kv kvp
 have hne:nd piv a≠j:=fun e=>by
  rw [<- e,h.pix_at ha] at hj
  exact absurd hj (by simp)
 rw [if_neg hne,h.pix_at ha]
theorem Red.kv0 (h:Red r (c+1) (augM c A V) M c piv) {j:Nat} (hj:j<c) (hf:pix piv j piv.length=none):∀ i,i<r->dz c (A i) (kv M piv j)=0:=by
 refine (h.hom _).2 fun a ha=>?_
 rw [h.kv_piv ha hf,sm_one hj fun k hk hne=>?_,if_pos hf,kv_self]
 ·grind
 ·split
  ·rename_i e;rw [kv_free e hne,Rat.mul_zero]
  ·rfl
end
end Go.Proofs.YtlmpoindlejefaaGreat.E
namespace Go.Proofs.YtlmpoindlejefaaGreat.E
open Go Go.RowKit
theorem valid.fd {x:api_Rat} (h:valid x):x.D≠0/\x.D.natAbs<2 ^ 40/\Fd x.D 40 (ratOf x):=by
 obtain ⟨h1,h2,h3,h4,h5⟩:=h
 exact ⟨by omega,by omega,x.N,by unfold ratOf;rw [Rat.divInt_eq_div],by omega⟩
theorem cd_list (f:Nat->api_Rat):∀ n,(∀ k,k<n->valid (f k))->∃ d:Int,d≠0/\d.natAbs<2 ^ (40*n+1)/\∀ k,k<n->Fd d (40*n+1) (ratOf (f k))
 | 0,_=>⟨1,by decide,by decide,fun k hk=>by omega⟩
 | n+1,h=>by
  obtain ⟨d,h0,h1,h2⟩:=cd_list f n fun k hk=>h k (by omega)
  obtain ⟨e0,e1,e2⟩:=(h n (Nat.lt_succ_self _)).fd
  refine ⟨d*(f n).D,Int.mul_ne_zero h0 e0,bits_mono (bits_mul h1 e1) (by omega),fun k hk=>?_⟩
  by_cases e:k=n
  ·subst e
   have:=e2.up (e:=d) e0 h0 h1
   rw [Int.mul_comm] at this
   exact this.mono (by omega)
  ·exact ((h2 k (by omega)).up h0 e0 e1).mono (by omega)
section
variable {v b:List api_Rat} {r c:Nat}
end
end Go.Proofs.YtlmpoindlejefaaGreat.E
