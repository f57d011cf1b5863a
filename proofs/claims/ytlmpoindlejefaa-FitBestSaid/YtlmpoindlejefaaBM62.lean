/- Joined. -/
import Derived.Test.YtlmpoindlejefaaBM59
set_option linter.unusedVariables false
set_option linter.unusedSimpArgs false
namespace Go.Proofs.Ytlmpoindlejefaa.E
open Go Go.RowKit
def fre (φ:Nat->Bool):Nat->List Nat
 | 0=>[]
 | k+1=>if φ k=true then fre φ k else fre φ k ++ [k]
def fcnt (φ:Nat->Bool) (k:Nat):Nat:=(fre φ k).length
section
variable {φ:Nat->Bool} {n:Nat}
theorem zFG (φ:Nat->Bool):∀ k,fcnt φ k<=k
 | 0=>Nat.le_refl _
 | k+1=>by
  have:=zFG φ k
  unfold fcnt at this |-
  rw [fre]
  split
  ·omega
  ·simp;omega
theorem zGk {k:Nat} (h:φ k=true):fcnt φ (k+1)=fcnt φ k:=by unfold fcnt;rw [fre,if_pos h]
theorem zFz {k:Nat} (h:φ k=false):fcnt φ (k+1)=fcnt φ k+1:=by unfold fcnt;rw [fre,if_neg (by simp [h])];simp
theorem zIw {j k:Nat} (h:j<=k):fcnt φ j<=fcnt φ k:=by
 induction k with
 | zero=>rw [show j=0 by omega];exact Nat.le_refl _
 | succ k ih=>
  by_cases e:j=k+1
  ·rw [e];exact Nat.le_refl _
  ·have:=ih (by omega)
   by_cases f:φ k=true
   ·rw [zGk f];exact this
   ·rw [zFz (by simpa using f)];omega
theorem zGl {k:Nat} (h:k<n) (f:φ k=false):fcnt φ k<fcnt φ n:=by
 have:=zIw (φ:=φ) (show k+1<=n from h)
 rw [zFz f] at this
 omega
theorem zHn {k:Nat} (h:k<n) (f:φ k=false):gd (fre φ n) (fcnt φ k)=k:=by
 induction n with
 | zero=>omega
 | succ n ih=>
  rw [fre]
  by_cases e:k=n
  ·subst e
   rw [if_neg (by simp [f]),zGf,show fcnt φ k=(fre φ k).length from rfl,if_neg (Nat.lt_irrefl _),Nat.sub_self]
   rfl
  ·have:=ih (by omega)
   split
   ·exact this
   ·rw [zGf,if_pos (show fcnt φ k<(fre φ n).length from zGl (by omega) f)];exact this
theorem zFv {r:Nat} (h:r<fcnt φ n):gd (fre φ n) r<n/\φ (gd (fre φ n) r)=false/\fcnt φ (gd (fre φ n) r)=r:=by
 induction n with
 | zero=>exact absurd h (Nat.not_lt_zero _)
 | succ n ih=>
  by_cases e:φ n=true
  ·rw [zGk e] at h
   rw [fre,if_pos e]
   have:=ih h
   exact ⟨by omega,this.2⟩
  ·have e':φ n=false:=by simpa using e
   rw [zFz e'] at h
   rw [fre,if_neg e,zGf]
   by_cases c:r<(fre φ n).length
   ·rw [if_pos c]
    have:=ih c
    exact ⟨by omega,this.2⟩
   ·have hr:r=fcnt φ n:=by unfold fcnt at h |-;omega
    rw [if_neg c,show r - (fre φ n).length=0 by unfold fcnt at hr;omega]
    exact ⟨Nat.lt_succ_self _,e',hr.symm⟩
theorem zIj (g:Nat->Rat):∀ n,sm (fcnt φ n) (fun r=>g (gd (fre φ n) r))=sm n (fun k=>if φ k=true then 0 else g k)
 | 0=>rfl
 | n+1=>by
  by_cases e:φ n=true
  ·rw [zGk e,sm,if_pos e,Rat.add_zero,<- zIj g n]
   exact zAW fun r hr=>by rw [fre,if_pos e]
  ·have e':φ n=false:=by simpa using e
   rw [zFz e',sm,sm,if_neg e,<- zIj g n,zAW (g:=fun r=>g (gd (fre φ n) r)) fun r hr=>by rw [fre,if_neg e,zGf,if_pos (show r<(fre φ n).length from hr)]]
   rw [show gd (fre φ (n+1)) (fcnt φ n)=n from zHn (Nat.lt_succ_self _) e']
end
section
variable {n:Nat} {A:Nat->Nat->Rat} {V x y z lo hi:Nat->Rat} {q:Rat} {φ:Nat->Bool}
def fcA (φ:Nat->Bool) (n:Nat) (A:Nat->Nat->Rat) (r c:Nat):Rat:=A (gd (fre φ n) r) (gd (fre φ n) c)
def fcV (φ:Nat->Bool) (n:Nat) (A:Nat->Nat->Rat) (V x:Nat->Rat) (k r:Nat):Rat:=V (gd (fre φ n) r) - sm k fun j=>if φ j=true then A (gd (fre φ n) r) j*x j else 0
def fcX (φ:Nat->Bool) (x y:Nat->Rat) (i:Nat):Rat:=if φ i=true then x i else y (fcnt φ i)
theorem dz_fcX (i:Nat):dz n (A i) (fcX φ x y)=sm n (fun j=>if φ j=true then A i j*x j else 0)+sm (fcnt φ n) (fun r=>A i (gd (fre φ n) r)*y r):=by
 have h:=zIj (φ:=φ) (fun k=>A i k*y (fcnt φ k)) n
 rw [zAW (n:=fcnt φ n) (g:=fun r=>A i (gd (fre φ n) r)*y r) fun r hr=>by rw [(zFv hr).2.2]] at h
 rw [h,<- zER]
 refine zAW fun j _=>?_
 unfold fcX
 by_cases e:φ j=true
 ·rw [if_pos e,if_pos e,if_pos e,Rat.add_zero]
 ·rw [if_neg e,if_neg e,if_neg e,Rat.zero_add]
theorem fcX_fm (h:∀ r,r<fcnt φ n->dz (fcnt φ n) (fcA φ n A r) y=fcV φ n A V x n r):FM n A V φ x (fcX φ x y):=by
 refine ⟨fun i hi f=>by unfold fcX;rw [if_pos f],fun i hi f=>?_⟩
 have h1:=h (fcnt φ i) (zGl hi f)
 unfold slp
 rw [dz_fcX]
 unfold dz fcA fcV at h1
 rw [zHn hi f] at h1
 grind
theorem fcA_inj (hp:PD n A) (h:∀ r,r<fcnt φ n->dz (fcnt φ n) (fcA φ n A r) z=0):∀ r,r<fcnt φ n->z r=0:=by
 have e1:∀ i,i<n->φ i=false->dz n (A i) (fcX φ (fun _=>0) z)=0:=fun i hi f=>by
  have h1:=h (fcnt φ i) (zGl hi f)
  unfold dz fcA at h1
  rw [zHn hi f] at h1
  rw [dz_fcX,h1,zCz fun j _=>by split <;> simp [Rat.mul_zero]]
  exact Rat.add_zero 0
 have e2:=hp.2.2 (fcX φ (fun _=>0) z) (zCz fun i hi=>by
  by_cases f:φ i=true
  ·unfold fcX;rw [if_pos f,Rat.zero_mul]
  ·rw [e1 i hi (by simpa using f),Rat.mul_zero])
 intro r hr
 obtain ⟨a,b,c⟩:=zFv hr
 have:=e2 _ a
 unfold fcX at this
 rw [if_neg (by simp [b]),c] at this
 exact this
def Bnd (n:Nat) (dB:Int) (x:Nat->Rat):Prop:=dB≠0/\Bt 961 dB/\∀ i,i<n->Fd dB 961 (x i)
theorem fcA_cd {d dB:Int} (d0:d≠0) (d1:Bt 12560 d) (dA:∀ i k,i<n->k<n->Fd d 12572 (A i k)) (dV:∀ i,i<n->Fd d 12572 (V i)) (b0:dB≠0) (b1:Bt 961 dB) (hx:∀ i,i<n->φ i=true->Fd dB 961 (x i)) (hn:n<=12) :
  CdM (fcnt φ n) (fcnt φ n+1) 13546 (augM (fcnt φ n) (fcA φ n A) (fcV φ n A V x n)):=by
 refine CdM.mk' (t:=13546) (Int.mul_ne_zero d0 b0) ((d1.mul b1).mono (by omega)) (Nat.le_refl _) (zIQ (P:=Fd (d*dB) 13546) (fun r c hr hc=>?_) (fun r hr=>?_))
 ·exact ((dA _ _ (zFv hr).1 (zFv hc).1).up d0 b0 b1).mono (by omega)
 ·have h1:=(dV _ (zFv hr).1).up d0 b0 b1
  have h2:Fd (d*dB) (12572+961+n) (sm n fun j=>if φ j=true then A (gd (fre φ n) r) j*x j else 0):=Fd.sm fun j hj=>by
   split
   ·rename_i f;exact (dA _ _ (zFv hr).1 hj).mul (hx j hj f) d0 b0
   ·exact Fd.zero
  exact ((h1.mono (show 12572+961<=12572+961+n by omega)).sub h2).mono (by omega)
theorem szC_f {k:Nat} (hk:k<=12):szC 13546 k<=55488511:=by
 have h1:=zGD 13546 hk
 have h2:szC 13546 12<=55488511:=by simp only [szC];omega
 omega
theorem fcX_cd {dB:Int} {M:Nat->Nat->Rat} (b0:dB≠0) (b1:Bt 961 dB) (hx:∀ i,i<n->φ i=true->Fd dB 961 (x i)) (hn:n<=12) (hM:CdM (fcnt φ n) (fcnt φ n+1) (szC 13546 (fcnt φ n)) M) (hy:∀ r,r<fcnt φ n->y r=M r (fcnt φ n)):CdV n 60000000 (fcX φ x y):=by
 obtain ⟨d,d0,d1,d2⟩:=hM
 have hs:=szC_f (Nat.le_trans (zFG φ n) hn)
 refine ⟨d*dB,Int.mul_ne_zero d0 b0,(Bt.mul d1 b1).mono (by omega),fun i hi=>?_⟩
 unfold fcX
 split
 ·rename_i f
  have:=(hx i hi f).up b0 d0 d1
  rw [Int.mul_comm] at this
  exact this.mono (by omega)
 ·rename_i f
  have hc:=zGl hi (show φ i=false by simpa using f)
  rw [hy _ hc]
  exact ((d2 _ _ hc (Nat.lt_succ_self _)).up d0 b0 b1).mono (by omega)
end
end Go.Proofs.Ytlmpoindlejefaa.E
namespace Go.Proofs.Ytlmpoindlejefaa.E
open Go Go.RowKit
section
variable {n T:Nat} {A:Nat->Nat->Rat} {V x y z lo hi x0:Nat->Rat} {q:Rat} {φ φ':Nat->Bool} {dB:Int}
def Crs (lo hi x y:Nat->Rat) (i:Nat):Prop:=(hi i<y i\/y i<lo i)/\y i≠x i
def edg (lo hi x y:Nat->Rat) (i:Nat):Rat:=if y i<x i then lo i else hi i
def bstp (lo hi x y:Nat->Rat) (i:Nat):Rat:=(edg lo hi x y i - x i) / (y i - x i)
theorem zHS {i:Nat} (h:y i≠x i):bstp lo hi x y i*(y i - x i)=edg lo hi x y i - x i:=by
 unfold bstp
 exact Rat.div_mul_cancel (by grind)
theorem zI2 {i:Nat} (hb:lo i<=x i/\x i<=hi i) (h:Crs lo hi x y i):0<=bstp lo hi x y i/\bstp lo hi x y i<1:=by
 obtain ⟨h1,h2⟩:=h
 obtain ⟨b1,b2⟩:=hb
 have e:=zHS (lo:=lo) (hi:=hi) h2
 generalize bstp lo hi x y i=t at e |-
 unfold edg at e
 by_cases c:y i<x i
 ·rw [if_pos c] at e
  constructor
  ·refine Rat.not_lt.1 fun ht=>?_
   have:=Rat.mul_pos (a:=-t) (b:=x i - y i) (by grind) (by grind)
   grind
  ·refine Rat.not_le.1 fun ht=>?_
   have:=zDw (a:=t - 1) (b:=x i - y i) (by grind) (by grind)
   grind
 ·rw [if_neg c] at e
  constructor
  ·refine Rat.not_lt.1 fun ht=>?_
   have:=Rat.mul_pos (a:=-t) (b:=y i - x i) (by grind) (by grind)
   grind
  ·refine Rat.not_le.1 fun ht=>?_
   have:=zDw (a:=t - 1) (b:=y i - x i) (by grind) (by grind)
   grind
theorem way_in {i:Nat} {t:Rat} (hb:lo i<=x i/\x i<=hi i) (t0:0<=t) (t1:t<=1) (h:Crs lo hi x y i->t<=bstp lo hi x y i):lo i<=x i+t*(y i - x i)/\x i+t*(y i - x i)<=hi i:=by
 obtain ⟨b1,b2⟩:=hb
 by_cases c:Crs lo hi x y i
 ·have h:=h c
  have e:=zHS (lo:=lo) (hi:=hi) c.2
  have c1:=c.1
  generalize bstp lo hi x y i=s at e h
  unfold edg at e
  by_cases c:y i<x i
  ·rw [if_pos c] at e
   have h1:=zDw (a:=s - t) (b:=x i - y i) (by grind) (by grind)
   have h2:=zDw (a:=t) (b:=x i - y i) (by grind) (by grind)
   constructor <;> grind
  ·rw [if_neg c] at e
   have h1:=zDw (a:=s - t) (b:=y i - x i) (by grind) (by grind)
   have h2:=zDw (a:=t) (b:=y i - x i) (by grind) (by grind)
   constructor <;> grind
 ·by_cases e:y i=x i
  ·rw [e,Rat.sub_self,Rat.mul_zero,Rat.add_zero];exact ⟨b1,b2⟩
  ·have h1:lo i<=y i:=Rat.not_lt.1 fun h=>c ⟨.inr h,e⟩
   have h2:y i<=hi i:=Rat.not_lt.1 fun h=>c ⟨.inl h,e⟩
   have p1:=zDw (a:=t) (b:=y i - lo i) t0 (by grind)
   have p2:=zDw (a:=t) (b:=hi i - y i) t0 (by grind)
   have p3:=zDw (a:=1 - t) (b:=x i - lo i) (by grind) (by grind)
   have p4:=zDw (a:=1 - t) (b:=hi i - x i) (by grind) (by grind)
   constructor <;> grind
def MinS (φ:Nat->Bool) (lo hi x y:Nat->Rat) (k:Nat) (t:Rat) (stop:Int):Prop:=
 (stop= -1/\t=1/\∀ i,i<k->φ i=false->¬ Crs lo hi x y i)\/∃ s:Nat,s<k/\stop=s/\φ s=false/\Crs lo hi x y s/\t=bstp lo hi x y s/\∀ i,i<k->φ i=false->Crs lo hi x y i->t<=bstp lo hi x y i
theorem MinS.keep {k:Nat} {t:Rat} {stop:Int} (hb:lo k<=x k/\x k<=hi k) (h:MinS φ lo hi x y k t stop) (hk:φ k=false->Crs lo hi x y k->t<=bstp lo hi x y k):MinS φ lo hi x y (k+1) t stop:=by
 rcases h with ⟨h1,h2,h3⟩ | ⟨s,s1,s2,s3,s4,s5,s6⟩
 ·refine .inl ⟨h1,h2,fun i hi f=>?_⟩
  by_cases e:i=k
  ·subst e
   intro c
   have:=hk f c
   have:=(zI2 hb c).2
   grind
  ·exact h3 i (by omega) f
 ·refine .inr ⟨s,by omega,s2,s3,s4,s5,fun i hi f=>?_⟩
  by_cases e:i=k
  ·subst e;exact hk f
  ·exact s6 i (by omega) f
theorem MinS.new {k:Nat} {t:Rat} {stop:Int} (h:MinS φ lo hi x y k t stop) (f:φ k=false) (c:Crs lo hi x y k) (hlt:bstp lo hi x y k<t):MinS φ lo hi x y (k+1) (bstp lo hi x y k) k:=by
 refine .inr ⟨k,Nat.lt_succ_self _,rfl,f,c,rfl,fun i hi fi ci=>?_⟩
 by_cases e:i=k
 ·subst e;exact Rat.le_refl
 ·rcases h with ⟨h1,h2,h3⟩ | ⟨s,s1,s2,s3,s4,s5,s6⟩
  ·exact absurd ci (h3 i (by omega) fi)
  ·have:=s6 i (by omega) fi ci
   grind
def Frd (n:Nat) (A:Nat->Nat->Rat) (V lo hi:Nat->Rat) (φ:Nat->Bool) (x:Nat->Rat) (j:Nat):Prop:=j<n/\φ j=false/\lo j<hi j/\(x j=lo j/\slp n A V x j<0\/x j=hi j/\0<slp n A V x j)/\∀ i,i<n->φ i=false->i≠j->slp n A V x i=0
structure Inn (n T:Nat) (A:Nat->Nat->Rat) (V lo hi:Nat->Rat) (ini:Prop) (x0:Nat->Rat) (x:Nat->Rat) (φ:Nat->Bool):Prop where
 bd:∀ i,i<n->lo i<=x i/\x i<=hi i
 fx:∀ i,i<n->φ i=true->x i=lo i\/x i=hi i
 cd:∃ k,k+fcnt φ n<=12/\CdV n (szK T k) x
 st:errQ n A V 0 x<errQ n A V 0 x0\/(∀ i,i<n->x i=x0 i)/\((∃ j,Frd n A V lo hi φ x j)\/(∀ i,i<n->φ i=true)/\ini)
structure Oud (n T:Nat) (A:Nat->Nat->Rat) (V lo hi:Nat->Rat) (ini:Prop) (x0:Nat->Rat) (x:Nat->Rat) (φ:Nat->Bool):Prop where
 bd:∀ i,i<n->lo i<=x i/\x i<=hi i
 fx:∀ i,i<n->φ i=true->x i=lo i\/x i=hi i
 cd:CdV n T x
 sl:∀ i,i<n->φ i=false->slp n A V x i=0
 st:errQ n A V 0 x<errQ n A V 0 x0\/(∀ i,i<n->x i=x0 i)/\ini
theorem fcnt_set {s:Nat} (h:∀ i,i<n->φ' i=if i=s then true else φ i) (f:φ s=false):fcnt φ' n+(if s<n then 1 else 0)=fcnt φ n:=by
 induction n with
 | zero=>rfl
 | succ n ih=>
  have ih:=ih fun i hi=>h i (by omega)
  have hn:=h n (Nat.lt_succ_self _)
  by_cases e:n=s
  ·subst e
   rw [if_pos rfl] at hn
   rw [zGk hn,zFz f,if_pos (by omega)]
   rw [if_neg (by omega)] at ih
   omega
  ·rw [if_neg e] at hn
   by_cases g:φ n=true
   ·rw [zGk g,zGk (hn.trans g),<- ih]
    congr 1
    by_cases c:s<n
    ·rw [if_pos c,if_pos (by omega)]
    ·rw [if_neg c,if_neg (by omega)]
   ·have g':φ n=false:=by simpa using g
    rw [zFz g',zFz (hn.trans g'),<- ih]
    by_cases c:s<n
    ·rw [if_pos c,if_pos (by omega)];try omega
    ·rw [if_neg c,if_neg (by omega)];try omega
theorem Frd.ne (h:∃ j,Frd n A V lo hi φ x j) (fm:FM n A V φ x y):∃ i,i<n/\x i≠y i:=by
 obtain ⟨j,h1,h2,h3,h4,h5⟩:=h
 refine Classical.byContradiction fun c=>?_
 have e:∀ i,i<n->x i=y i:=fun i hi=>Classical.byContradiction fun d=>c ⟨i,hi,d⟩
 have e1:=zHA (A:=A) (V:=V) e j
 rw [fm.2 j h1 h2] at e1
 rcases h4 with ⟨_,g⟩ | ⟨_,g⟩ <;> grind
theorem Inn.fin {ini:Prop} (hp:PD n A) (h:Inn n T A V lo hi ini x0 x φ) (fm:FM n A V φ x y) (cy:CdV n T y) (hm:∀ i,i<n->φ i=false->¬ Crs lo hi x y i):Oud n T A V lo hi ini x0 (fun i=>x i+1*(y i - x i)) φ:=by
 have e:(fun i=>x i+1*(y i - x i))=y:=by funext i;grind
 have hw:=fun i hi=>way_in (y:=y) (t:=1) (h.bd i hi) (by decide) Rat.le_refl fun c=>by
  by_cases f:φ i=true
  ·exact absurd (fm.1 i hi f) c.2
  ·exact absurd c (hm i hi (by simpa using f))
 have hl:errQ n A V 0 (fun i=>x i+1*(y i - x i))<=errQ n A V 0 x:=fm.le (t:=1) hp (by decide) Rat.le_refl
 refine ⟨hw,fun i hi f=>?_,by rw [e];exact cy,by rw [e];exact fm.2,?_⟩
 ·have:=h.fx i hi f
  rw [fm.1 i hi f]
  have e:x i+1*(x i - x i)=x i:=by grind
  rw [e];exact this
 ·rcases h.st with st | ⟨e1,st | st⟩
  ·exact .inl (by grind)
  ·have:=fm.lt (q:=0) (t:=1) hp (by decide) Rat.le_refl (Frd.ne st fm)
   rw [zEv e1] at this
   exact .inl this
  ·refine .inr ⟨fun i hi=>?_,st.2⟩
   rw [<- e1 i hi,fm.1 i hi (st.1 i hi)]
   grind
theorem Inn.go (hp:PD n A) (hT:T<=60000000) (bl:Bnd n dB lo) (bh:Bnd n dB hi) {ini:Prop} (h:Inn n T A V lo hi ini x0 x φ) (fm:FM n A V φ x y) (cy:CdV n T y) {s:Nat} (hs:s<n) (fs:φ s=false) (cs:Crs lo hi x y s)
  (hm:∀ i,i<n->φ i=false->Crs lo hi x y i->bstp lo hi x y s<=bstp lo hi x y i) (hφ:∀ i,i<n->φ' i=if i=s then true else φ i):Inn n T A V lo hi ini x0 (fun i=>x i+bstp lo hi x y s*(y i - x i)) φ'/\fcnt φ' n<fcnt φ n:=by
 obtain ⟨t0,t1⟩:=zI2 (h.bd s hs) cs
 have t1':bstp lo hi x y s<=1:=by grind
 have hcnt:=fcnt_set hφ fs
 rw [if_pos hs] at hcnt
 have hl:errQ n A V 0 (fun i=>x i+bstp lo hi x y s*(y i - x i))<=errQ n A V 0 x:=fm.le hp t0 t1'
 have hlt:0<bstp lo hi x y s->errQ n A V 0 (fun i=>x i+bstp lo hi x y s*(y i - x i))<errQ n A V 0 x:=fun t0=>fm.lt hp t0 t1' ⟨s,hs,fun e=>cs.2 e.symm⟩
 have es:x s+bstp lo hi x y s*(y s - x s)=edg lo hi x y s:=by rw [zHS cs.2];grind
 have eb:edg lo hi x y s=lo s\/edg lo hi x y s=hi s:=by unfold edg;split <;> simp
 refine ⟨⟨fun i hi'=>?_,fun i hi' f=>?_,?_,?_⟩,by omega⟩
 ·refine way_in (h.bd i hi') t0 t1' fun c=>?_
  by_cases f:φ i=true
  ·exact absurd (fm.1 i hi' f) c.2
  ·exact hm i hi' (by simpa using f) c
 ·by_cases e:i=s
  ·subst e;rw [es];exact eb
  ·rw [hφ i hi',if_neg e] at f
   have:=h.fx i hi' f
   rw [fm.1 i hi' f]
   have e:x i+bstp lo hi x y s*(x i - x i)=x i:=by grind
   rw [e];exact this
 ·obtain ⟨k,hk,cx⟩:=h.cd
  refine ⟨k+1,by omega,?_⟩
  have bb:Fd dB 961 (edg lo hi x y s):=by
   rcases eb with e | e
   ·rw [e];exact bl.2.2 s hs
   ·rw [e];exact bh.2.2 s hs
  exact cx.way cy bl.1 bl.2.1 bb hs cs.2
 ·rcases h.st with st | ⟨e1,⟨j,j1,j2,j3,j4,j5⟩ | st⟩
  ·exact .inl (by grind)
  ·by_cases c:0<bstp lo hi x y s
   ·have:=hlt c
    rw [zEv e1] at this
    exact .inl this
   ·have tz:bstp lo hi x y s=0:=by grind
    have ex:(fun i=>x i+bstp lo hi x y s*(y i - x i))=x:=by funext i;rw [tz];grind
    rw [ex]
    refine .inr ⟨fun i hi=>(congrFun ex i).trans (e1 i hi),.inl ⟨j,j1,?_,j3,j4,fun i hi' f hne=>?_⟩⟩
    ·rw [hφ j j1,if_neg fun e=>?_]
     ·exact j2
     ·subst e
      have mv:=fm.moves hp j1 j2 (by rcases j4 with ⟨_,g⟩ | ⟨_,g⟩ <;> grind) j5
      rw [tz,Rat.zero_mul,Rat.add_zero] at es
      unfold edg at es
      rcases j4 with ⟨a,g⟩ | ⟨a,g⟩
      ·by_cases c:y j<x j
       ·have:=Rat.mul_pos (a:=-slp n A V x j) (b:=x j - y j) (by grind) (by grind)
        grind
       ·rw [if_neg c] at es;grind
      ·by_cases c:y j<x j
       ·rw [if_pos c] at es;grind
       ·have:=zDw (a:=slp n A V x j) (b:=y j - x j) (by grind) (by grind)
        grind
    ·by_cases e:i=s
     ·rw [hφ i hi',if_pos e] at f;cases f
     ·rw [hφ i hi',if_neg e] at f;exact j5 i hi' f hne
  ·rw [st.1 s hs] at fs;cases fs
def Ots (n T:Nat) (A:Nat->Nat->Rat) (V lo hi:Nat->Rat) (μ:(Nat->Rat)->Nat) (x:Nat->Rat) (φ:Nat->Bool) (m:Nat):Prop:=(∀ i,i<n->lo i<=x i/\x i<=hi i)/\(∀ i,i<n->φ i=true->x i=lo i\/x i=hi i)/\CdV n T x/\((∀ i,i<n->φ i=true)/\m=μ x+1\/(∃ j,Frd n A V lo hi φ x j)/\m=μ x)
theorem Ots.inn {μ:(Nat->Rat)->Nat} {m:Nat} (h:Ots n T A V lo hi μ x φ m) (hn:n<=12):Inn n T A V lo hi (∀ i,i<n->φ i=true) x x φ:=by
 obtain ⟨h1,h2,h3,h4⟩:=h
 refine ⟨h1,h2,⟨0,by have:=zFG φ n;omega,h3⟩,.inr ⟨fun _ _=>rfl,?_⟩⟩
 rcases h4 with ⟨a,_⟩ | ⟨a,_⟩
 ·exact .inr ⟨a,a⟩
 ·exact .inl a
def Pick (n:Nat) (A:Nat->Nat->Rat) (V lo hi x:Nat->Rat) (φ:Nat->Bool) (i:Nat):Prop:=φ i=true/\lo i<hi i/\(x i=lo i/\slp n A V x i<0\/x i=hi i/\0<slp n A V x i)
theorem Oud.next {φ0:Nat->Bool} {μ:(Nat->Rat)->Nat} {m j:Nat} (μ0:∀ x x':Nat->Rat,(∀ i,i<n->x i=x' i)->μ x=μ x') (μ1:∀ x x',(∃ σ,σ ∈ allS n/\MatchS n A V lo hi σ x')->errQ n A V 0 x'<errQ n A V 0 x->μ x'<μ x)
  (h0:Ots n T A V lo hi μ x0 φ0 m) (h:Oud n T A V lo hi (∀ i,i<n->φ0 i=true) x0 x φ) (hj:j<n) (pk:Pick n A V lo hi x φ j) (hφ:∀ i,i<n->φ' i=if i=j then false else φ i):∃ m',Ots n T A V lo hi μ x φ' m'/\m'<m:=by
 refine ⟨μ x,⟨h.bd,fun i hi' f=>?_,h.cd,.inr ⟨⟨j,hj,by rw [hφ j hj,if_pos rfl],pk.2.1,pk.2.2,fun i hi' f hne=>?_⟩,rfl⟩⟩,?_⟩
 ·rw [hφ i hi'] at f
  by_cases e:i=j
  ·rw [if_pos e] at f;cases f
  ·rw [if_neg e] at f;exact h.fx i hi' f
 ·rw [hφ i hi',if_neg hne] at f
  exact h.sl i hi' f
 ·rcases h.st with st | ⟨e,ini⟩
  ·have:=μ1 x0 x (match_ex h.fx h.sl) st
   rcases h0.2.2.2 with ⟨_,rfl⟩ | ⟨_,rfl⟩ <;> omega
  ·rw [μ0 x x0 e]
   rcases h0.2.2.2 with ⟨_,rfl⟩ | ⟨⟨j',a,b,_⟩,rfl⟩
   ·omega
   ·rw [ini j' a] at b;cases b
theorem Oud.kkt {ini:Prop} (h:Oud n T A V lo hi ini x0 x φ) (hn:∀ i,i<n->¬ Pick n A V lo hi x φ i):KKT n A V lo hi x:=by
 intro i hi'
 obtain ⟨b1,b2⟩:=h.bd i hi'
 refine ⟨b1,b2,?_⟩
 by_cases f:φ i=true
 ·by_cases e:lo i=hi i
  ·exact .inl e
  ·have hlt:lo i<hi i:=by grind
   have np: ¬ (x i=lo i/\slp n A V x i<0\/x i=hi i/\0<slp n A V x i):=fun c=>hn i hi' ⟨f,hlt,c⟩
   rcases h.fx i hi' f with a | a
   ·exact .inr (.inr (.inl ⟨a,Rat.not_lt.1 fun c=>np (.inl ⟨a,c⟩)⟩))
   ·exact .inr (.inr (.inr ⟨a,Rat.not_lt.1 fun c=>np (.inr ⟨a,c⟩)⟩))
 ·exact .inr (.inl (h.sl i hi' (by simpa using f)))
end
end Go.Proofs.Ytlmpoindlejefaa.E
namespace Go.Proofs.Ytlmpoindlejefaa.E
open Go Go.RowKit
def atI (φ:Nat->Bool) (n:Nat):List Int:=(fre φ n).map fun k:Nat=>(k:Int)
section
variable {φ:Nat->Bool} {n:Nat}
theorem zHT:(atI φ n).length=fcnt φ n:=by simp [atI,fcnt]
theorem atI_gi {r:Nat} (h:r<fcnt φ n):gi (atI φ n) (r:Int)=((gd (fre φ n) r:Nat):Int):=by
 rw [zCI,zHN (by rw [zHT];exact h),zHN (show r<(fre φ n).length from h)]
 simp [atI]
theorem atI_t {k:Nat} (h:φ k=true):atI φ (k+1)=atI φ k:=by unfold atI;rw [fre,if_pos h]
theorem atI_f {k:Nat} (h:φ k=false):atI φ (k+1)=atI φ k ++ [(k:Int)]:=by unfold atI;rw [fre,if_neg (by simp [h])];simp
end
section
variable {P:zAQ} {l:List zAD} {bs:List Bool} {n:Nat} {A:Nat->Nat->Rat} {V x:Nat->Rat} {q:Rat} {dB:Int} {Q:List zAD->Prop}
theorem zH7 {R:List zAD->Prop} (hn:P.sums.n=n) (hn12:n<=12) (hb:bs.length=n) (H:(zAJ.j1 P bs l (atI (gd bs) n)).run R):(zAJ.f P l bs).run R:=by
 unfold zAJ.f
 refine W.loop_c (fun s:List Int×Int=>∃ i:Nat,s.2=i/\i<=n/\s.1=atI (gd bs) i) (fun s=>n - s.2.toNat) ⟨0,rfl,Nat.zero_le _,rfl⟩ ?_
 rintro ⟨_,_⟩ P1 ⟨i,rfl,hi,rfl⟩ hgo hbrk hout
 simp only at hgo |-
 unfold zAJ.l4
 rw [hn]
 refine W.run_if (fun c=>W.req_i (by omega) ?_) (fun c=>hbrk _ (by obtain rfl:i=n:=(by omega);exact H))
 rw [zCI]
 have hl:=zHT (φ:=gd bs) (n:=i)
 have:=zFG (gd bs) i
 refine W.run_if (fun c1=>hgo _ ⟨i+1,by simp,by omega,(atI_t c1).symm⟩ (by simp;omega)) (fun c1=>W.req_i (by omega) (hgo _ ⟨i+1,by simp,by omega,(atI_f (by simpa using c1)).symm⟩ (by simp;omega)))
theorem zHO (hS:Sums P.sums n A V q) (hn:n<=12) (z:Small 973 n A V q) (hx:QL l n x) (hb:bs.length=n) (sx:∀ i,i<n->gd bs i=true->Sz 961 (x i))
  (H:∀ M v,QM M (fcnt (gd bs) n) (fcnt (gd bs) n) (fcA (gd bs) n A)->QL v (fcnt (gd bs) n) (fcV (gd bs) n A V x n)->(zAJ.j2 l (atI (gd bs) n) M v).run Q):(zAJ.j1 P bs l (atI (gd bs) n)).run Q:=by
 have hcl:=zFG (gd bs) n
 have hal:=zHT (φ:=gd bs) (n:=n)
 have hml:=hS.hm.1
 have hvl:=hS.hv.1
 have hxl:=hx.1
 generalize hd:fcnt (gd bs) n=d at *
 unfold zAJ.j1
 rw [hal]
 refine W.req_i (by omega) (W.req_i (by omega) ?_)
 simp only [Int.toNat_natCast]
 refine W.loop_c (fun s:List (List zAD)×List zAD×Int=>∃ r:Nat,s.2.2=r/\r<=d/\s.1.length=d/\s.2.1.length=d/\(∀ a,a<r->QL (gd s.1 a) d (fcA (gd bs) n A a)/\QRep (gd s.2.1 a) (fcV (gd bs) n A V x n a))/\∀ a,r<=a->a<d->gd s.1 a= []) (fun s=>d - s.2.2.toNat) ⟨0,rfl,Nat.zero_le _,by simp,by simp,fun a ha=>by omega,fun a _ ha=>gd_rep ha⟩ ?_
 rintro ⟨M,v,_⟩ P1 ⟨r,rfl,hr,h1,h2,h3,h4⟩ hgo hbrk hout
 simp only at h1 h2 h3 h4 hgo |-
 unfold zAJ.l2
 rw [hal]
 refine W.run_if (fun c=>?_) (fun c=>hbrk _ (by obtain rfl:r=d:=(by omega);exact H M v ⟨h1,fun a ha=>(h3 a ha).1⟩ ⟨h2,fun a ha=>(h3 a ha).2⟩))
 have hrd:r<d:=by omega
 have hat:=atI_gi (φ:=gd bs) (n:=n) (r:=r) (by omega)
 obtain ⟨hf1,hf2,hf3⟩:=zFv (φ:=gd bs) (n:=n) (r:=r) (by omega)
 have efA:∀ c,fcA (gd bs) n A r c=A (gd (fre (gd bs) n) r) (gd (fre (gd bs) n) c):=fun _=>rfl
 have efV:∀ k,fcV (gd bs) n A V x k r=V (gd (fre (gd bs) n) r) - sm k fun j=>if gd bs j=true then A (gd (fre (gd bs) n) r) j*x j else 0:=fun _=>rfl
 have efr:∀ k,k<n->gd bs k=false->gd (fre (gd bs) n) (fcnt (gd bs) k)=k:=fun k hk f=>zHn hk f
 simp only [hat]
 simp only [zCI]
 generalize gd (fre (gd bs) n) r=i at *
 refine W.req_i (by omega) (W.req_i (by omega) (W.req_i (by omega) ?_))
 simp only [Int.toNat_natCast]
 refine W.loop_c (fun s:List (List zAD)×List zAD×Int=>∃ k:Nat,s.2.2=k/\k<=n/\s.1.length=d/\s.2.1.length=d/\(∀ a,a<r->QL (gd s.1 a) d (fcA (gd bs) n A a)/\QRep (gd s.2.1 a) (fcV (gd bs) n A V x n a))/\QL (gd s.1 r) (fcnt (gd bs) k) (fcA (gd bs) n A r)/\QRep (gd s.2.1 r) (fcV (gd bs) n A V x k r)/\∀ a,r<a->a<d->gd s.1 a= []) (fun s=>n - s.2.2.toNat) ⟨0,rfl,Nat.zero_le _,h1,by simp [h2],fun a ha=>?_,?_,?_,fun a ha1 ha2=>h4 a (by omega) ha2⟩ ?_
 ·refine ⟨(h3 a ha).1,?_⟩
  simp only
  rw [zCX,if_neg (by omega)];exact (h3 a ha).2
 ·rw [h4 r (Nat.le_refl _) hrd];exact ⟨rfl,fun j hj=>absurd hj (Nat.not_lt_zero _)⟩
 ·simp only
  rw [zCX,if_pos ⟨rfl,by omega⟩,efV,sm,show V i - 0=V i by grind]
  exact hS.hv.2 i hf1
 clear h1 h2 h3 h4
 rintro ⟨M,v,_⟩ P2 ⟨k,rfl,hk,h1,h2,h3,h4,h5,h6⟩ hgo2 hbrk2 hout2
 simp only at h1 h2 h3 h4 h5 h6 hgo2 |-
 unfold zAJ.l3
 rw [hS.hn]
 refine W.run_if (fun c2=>W.req_i (by omega) ?_) (fun c2=>hbrk2 _ ?_)
 ·have hkn:k<n:=by omega
  have hrow:=hS.hm.2 i hf1
  have hrl:=hrow.1
  simp only [hat]
  simp only [zCI]
  refine W.run_if (fun f=>?_) (fun f=>?_)
  ·have sV:Sz (973+(k*(973+961+1)+1)+1) (fcV (gd bs) n A V x k r):=by
    rw [efV]
    refine (z.v i hf1).sub (Sz.sm fun j hj=>?_)
    by_cases g:gd bs j=true
    ·rw [if_pos g];exact (z.a i j hf1 (by omega)).mul (sx j (by omega) g)
    ·rw [if_neg g];exact Sz.zero.mono (by omega)
   have s1:=z.a i k hf1 hkn
   have s2:=sx k hkn f
   refine W.req_i (by omega) (W.req_i (by omega) (W.req_i (by omega) (W.req_i (by omega) (W.bd (zBh (hrow.2 k hkn) (hx.2 k hkn) (s1.ok (by omega)) (s2.ok (by omega)) fun u hu=>W.bd (zCS h5 hu (sV.ok (by omega)) ((s1.mul s2).ok (by omega)) fun w hw=>W.req_i (by omega) (hgo2 _ ⟨k+1,by simp,by omega,h1,by simp [h2],fun a ha=>?_,?_,?_,h6⟩ (by simp;omega))))))))
   ·refine ⟨(h3 a ha).1,?_⟩
    simp only [Int.toNat_natCast]
    rw [zCX,if_neg (by omega)];exact (h3 a ha).2
   ·rw [zGk f];exact h4
   ·simp only [Int.toNat_natCast]
    rw [zCX,if_pos ⟨rfl,by omega⟩,efV,sm,if_pos f]
    rw [efV] at hw
    rw [show ∀ a b c:Rat,a - (b+c)=a - b - c from fun a b c=>by grind]
    exact hw
  ·have f':gd bs k=false:=by simpa using f
   have h4l:=h4.1
   have:=zFG (gd bs) k
   have hc:=efr k hkn f'
   refine W.req_i (by omega) (W.req_i (by omega) (W.req_i (by omega) (W.req_i (by omega) (W.req_i (by omega) (hgo2 _ ⟨k+1,by simp,by omega,by simp [h1],h2,fun a ha=>?_,?_,?_,fun a ha1 ha2=>?_⟩ (by simp;omega))))))
   ·refine ⟨?_,(h3 a ha).2⟩
    simp only [Int.toNat_natCast]
    rw [zCX,if_neg (by omega)];exact (h3 a ha).1
   ·simp only [Int.toNat_natCast]
    rw [zCX,if_pos ⟨rfl,by omega⟩,zFz f']
    refine (h4.snoc (hrow.2 k hkn)).congr fun j hj=>?_
    by_cases e:j=fcnt (gd bs) k
    ·rw [if_pos e,efA,e,hc]
    ·rw [if_neg e]
   ·rw [efV,sm,if_neg f,Rat.add_zero]
    rw [efV] at h5
    exact h5
   ·simp only [Int.toNat_natCast]
    rw [zCX,if_neg (by omega)];exact h6 a ha1 ha2
 ·obtain rfl:k=n:=by omega
  unfold zAJ.j4
  refine hgo _ ⟨r+1,by simp,by omega,h1,h2,fun a ha=>?_,fun a ha1 ha2=>h6 a (by omega) ha2⟩ (by simp;omega)
  by_cases e:a=r
  ·subst e;exact ⟨hd ▸ h4,h5⟩
  ·exact h3 a (by omega)
theorem zHo {d:Int} (hS:Sums P.sums n A V q) (hn:n<=12) (hp:PD n A) (z:Small 973 n A V q) (hx:QL l n x) (hb:bs.length=n) (d0:d≠0) (d1:Bt 12560 d) (dA:∀ i k,i<n->k<n->Fd d 12572 (A i k)) (dV:∀ i,i<n->Fd d 12572 (V i)) (b0:dB≠0) (b1:Bt 961 dB) (bx:∀ i,i<n->gd bs i=true->Fd dB 961 (x i))
  (H:∀ o y,QL o n y->FM n A V (gd bs) x y->CdV n 60000000 y->Q o):(zAJ.f P l bs).run Q:=by
 refine zH7 hS.hn hn hb (zHO hS hn z hx hb (fun i hi f=>(bx i hi f).sz b0 b1) fun M v hM hv=>?_)
 have hcl:=zFG (gd bs) n
 have hal:=zHT (φ:=gd bs) (n:=n)
 have hsz:=szC_f (Nat.le_trans hcl hn)
 have hxl:=hx.1
 unfold zAJ.j2
 refine W.bd (zFb (Z:=fun k N=>CdM (fcnt (gd bs) n) (fcnt (gd bs) n+1) (szC 13546 k) N) (t0:=szC 13546 (fcnt (gd bs) n)) hM hv (by omega) (by omega) (fcA_cd d0 d1 dA dV b0 b1 bx hn) Grows.cd (fun out y k1 k2 k3=>?_) (fun u u1 u2=>?_))
 ·have k1l:=k1.1
  have hfm:=fcX_fm ((k2 y).2 fun _ _=>rfl)
  obtain ⟨M',m1,m2⟩:=k3
  have hcd:=fcX_cd b0 b1 bx hn m1 m2
  refine W.bd (zDU (by omega) ?_)
  refine W.loop_c (fun s:List zAD×Int=>∃ r:Nat,s.2=r/\r<=fcnt (gd bs) n/\QL s.1 n (fun i=>if gd bs i=false/\fcnt (gd bs) i<r then y (fcnt (gd bs) i) else x i)) (fun s=>fcnt (gd bs) n - s.2.toNat) ⟨0,rfl,Nat.zero_le _,hx.congr fun i _=>by rw [if_neg (by omega)]⟩ ?_
  rintro ⟨o,_⟩ P1 ⟨r,rfl,hr,h1⟩ hgo hbrk hout
  simp only at h1 hgo |-
  have hol:=h1.1
  unfold zAJ.l1
  rw [hal]
  refine W.run_if (fun c=>?_) (fun c=>hbrk _ (H _ _ (h1.congr fun i hi=>?_) hfm hcd))
  ·have hrd:r<fcnt (gd bs) n:=by omega
   obtain ⟨f1,f2,f3⟩:=zFv hrd
   simp only [atI_gi hrd]
   simp only [zCI]
   refine W.req_i (by omega) (W.req_i (by omega) (W.req_i (by omega) (hgo _ ⟨r+1,by simp,by omega,?_⟩ (by simp;omega))))
   simp only [Int.toNat_natCast]
   refine (h1.set (k1.2 r hrd)).congr fun i hi=>?_
   by_cases e:i=gd (fre (gd bs) n) r
   ·rw [if_pos e]
    subst e
    rw [if_pos ⟨f2,by omega⟩,f3]
   ·rw [if_neg e]
    by_cases g:gd bs i=false
    ·have hne:fcnt (gd bs) i≠r:=fun h=>e (by rw [<- h,zHn hi g])
     have:(fcnt (gd bs) i<r+1) ↔ (fcnt (gd bs) i<r):=by omega
     simp only [this]
    ·simp [g]
  ·unfold fcX
   by_cases g:gd bs i=true
   ·rw [if_neg (by simp [g]),if_pos g]
   ·have g':gd bs i=false:=by simpa using g
    have:=zGl hi g'
    rw [if_pos ⟨g',by omega⟩,if_neg g]
 ·obtain ⟨f,hf,hu⟩:=u1
  exact absurd (fcA_inj hp u2 f hf) hu
end
end Go.Proofs.Ytlmpoindlejefaa.E
