/- The program's integers and numbers. -/
import Derived.Test.YtgbmmbfminafnaaKM15
set_option linter.unusedVariables false
set_option linter.unusedSimpArgs false
namespace Go.Proofs.Ytgbmmbfminafnaa.E
open Go Go.RowKit
def zval (z:num_Z):Int:=if z.m= [] then z.v else if z.neg=true then - wv z.m else wv z.m
theorem ZRep.zval {z:num_Z} {n:Int} (h:ZRep z n):zval z=n:=by
 unfold E.zval
 by_cases c:z.m= []
 ·rw [if_pos c,h.sm c]
 ·rw [if_neg c,(h.bg c).1.val]
theorem tmod_nat (p q:Nat):(p:Int).tmod q=((p % q:Nat):Int):=by rw [Int.tmod_eq_emod_of_nonneg (by omega)];simp
section
variable {a b:num_Z} {x y:Int} {Q:num_Z->Prop}
theorem num_Quo_run {s:Nat} {Q:num_Z×num_Z->Prop} (ha:ZRep a x) (hb:ZRep b y) (hs:s<=35184372087999) (sx:x.natAbs<2 ^ s) (sy:y.natAbs<2 ^ s) (h0:y≠0) (H:∀ z u,ZRep z (x.tdiv y)->ZRep u (x.tmod y)->Q (z,u)):(num_Z_Quo.f a b).run Q:=by
 have hva:=i64_iff.1 ha.v
 have hvb:=i64_iff.1 hb.v
 have slow:(num_Z_Quo.j1 a b ⟨0,[],false⟩ ⟨0,[],false⟩).run Q:=by
  unfold num_Z_Quo.j1
  refine W.bd (num_words_run ha fun m1 n1 w1=>W.bd (num_words_run hb fun m2 n2 w2=>?_))
  have v1:=w1.val
  have v2:=w2.val
  have l1:=w1.len sx
  have l2:=w2.len sy
  have d1:=w1.wd
  have d2:=w2.wd
  have hne:m2≠[]:=fun e=>h0 (w2.nil_iff.1 e)
  have p1:=wv_nonneg d1
  simp only at v1 v2 l1 l2 p1 |-
  refine W.bd (num_quoWords_run d1 d2 w1.tr w2.tr hne (by omega) (by omega) fun q r wq wr vq vr=>W.bd (num_made_run wq fun z hz=>W.bd (num_made_run wr fun u hu=>H z u ?_ ?_)))
  ·have e:(if (!(n1 == n2))=true then - wv q else wv q)=x.tdiv y:=by
    rw [v1,v2,vq,<- Int.tdiv_eq_ediv_of_nonneg p1]
    cases n1 <;> cases n2 <;> simp [Int.neg_tdiv,Int.tdiv_neg]
   rwa [e] at hz
  ·have e:(if n1=true then - wv r else wv r)=x.tmod y:=by
    rw [v1,v2,vr,<- Int.tmod_eq_emod_of_nonneg p1]
    cases n1 <;> cases n2 <;> simp [Int.neg_tmod,Int.tmod_neg]
   rwa [e] at hu
 unfold num_Z_Quo.f
 refine W.run_if (fun c=>W.run_if (fun c2=>W.run_if (fun c3=>?_) (fun c3=>slow)) (fun c2=>slow)) (fun c=>slow)
 have e1:=ha.sm c
 have e2:=hb.sm c2
 rw [<- e1,<- e2]
 have h1:(x.tdiv y).natAbs<=x.natAbs:=by rw [Int.natAbs_tdiv];exact Nat.div_le_self _ _
 have h2:(x.tmod y).natAbs<=x.natAbs:=by rw [Int.natAbs_tmod];exact Nat.mod_le _ _
 exact W.req_i h0 (W.req_i (by show _/\_;omega) (W.req_i h0 (H _ _ (ZRep.int (by show _/\_;omega)) (ZRep.int (by show _/\_;omega)))))
theorem num_Gcd_run {s:Nat} (ha:ZRep a x) (hb:ZRep b y) (hs:s<=35184372087999) (sx:x.natAbs<2 ^ s) (sy:y.natAbs<2 ^ s) (H:∀ z,ZRep z (Nat.gcd x.natAbs y.natAbs:Nat)->Q z):(num_Gcd.f a b).run Q:=by
 unfold num_Gcd.f
 refine W.bd (num_Abs_run ha fun a' ha'=>W.bd (num_Abs_run hb fun b' hb'=>?_))
 generalize x.natAbs=m at *
 generalize y.natAbs=n at *
 refine W.loop_c (fun s':num_Z×num_Z×num_Z=>∃ p q:Nat,ZRep s'.1 p/\ZRep s'.2.1 q/\p<2 ^ s/\q<2 ^ s/\Nat.gcd p q=Nat.gcd m n) (fun s=>(zval s.2.1).natAbs) ⟨m,n,ha',hb',sx,sy,rfl⟩ ?_
 rintro ⟨u,v,w⟩ P ⟨p,q,hp,hq,sp,sq,hg⟩ hgo hbrk hout
 simp only at hp hq hgo |-
 unfold num_Gcd.l1
 have stepR:Nat.gcd q (p % q)=Nat.gcd m n:=by rw [<- hg,Nat.gcd_comm q,<- Nat.gcd_rec,Nat.gcd_comm]
 refine W.bd (num_Sign_run hq (W.run_if (fun c=>?_) (fun c=>hbrk _ ?_)))
 ·have hq0:q≠0:=fun e=>by subst e;simp [sgn] at c
  have slow:(num_Gcd.j2 u v w).run P:=by
   unfold num_Gcd.j2
   refine W.bd (num_Quo_run hp hq hs (by simpa using sp) (by simpa using sq) (by omega) fun z r hz hr=>hgo _ ⟨q,p % q,hq,?_,sq,Nat.lt_of_le_of_lt (Nat.mod_le _ _) sp,stepR⟩ ?_)
   ·simp only
    rw [<- tmod_nat];exact hr
   ·simp only
    rw [hr.zval,hq.zval,Int.natAbs_tmod]
    simpa using Nat.mod_lt _ (Nat.pos_of_ne_zero hq0)
  refine W.run_if (fun c1=>W.run_if (fun c2=>?_) (fun c2=>slow)) (fun c1=>slow)
  have e1:=hp.sm c1
  have e2:=hq.sm c2
  have r1:=i64_iff.1 hp.v
  have r2:=i64_iff.1 hq.v
  rw [<- e1,<- e2]
  refine W.loop_c (fun s':Int×Int=>∃ p q:Nat,s'.1=p/\s'.2=q/\p<9223372036854775808/\q<9223372036854775808/\Nat.gcd p q=Nat.gcd m n) (fun s=>s.2.natAbs) ⟨p,q,rfl,rfl,by omega,by omega,hg⟩ ?_
  rintro ⟨_,_⟩ P2 ⟨p,q,rfl,rfl,sp,sq,hg⟩ hgo2 hbrk2 hout2
  simp only at hgo2 |-
  unfold num_Gcd.l2
  refine W.run_if (fun c3=>W.req_i c3 (hgo2 _ ⟨q,p % q,rfl,tmod_nat p q,sq,Nat.lt_of_le_of_lt (Nat.mod_le _ _) sp,by rw [<- hg,Nat.gcd_comm q,<- Nat.gcd_rec,Nat.gcd_comm]⟩ ?_)) (fun c3=>hbrk2 _ ?_)
  ·simp only
   rw [Int.natAbs_tmod]
   simpa using Nat.mod_lt p (Nat.pos_of_ne_zero (by omega:q≠0))
  ·have:q=0:=by omega
   subst this
   rw [Nat.gcd_zero_right] at hg
   refine hout _ (H _ ?_)
   rw [<- hg]
   exact ZRep.int (by show _/\_;omega)
 ·have:q=0:=by
   unfold sgn at c
   by_cases e:q=0
   ·exact e
   ·rw [if_neg (by omega),if_neg (by omega)] at c;simp at c
  subst this
  rw [Nat.gcd_zero_right] at hg
  refine H _ ?_
  rw [<- hg]
  exact hp
theorem num_Int_run' {Q:Int×Bool->Prop} {m:Int} (hm:0<=m/\m<9223372036854775807) (ha:ZRep a x) (H:∀ v b,(b=true->v=x)->(b=true ↔ -m<=x/\x<=m)->Q (v,b)):(num_Z_Int.f a m).run Q:=by
 unfold num_Z_Int.f
 refine W.run_if (fun c=>?_) (fun c=>H _ _ (fun e=>by simp at e) ⟨fun e=>by simp at e,fun e=>?_⟩)
 ·have e1:=ha.sm c
  rw [<- e1]
  refine W.run_if (fun c2=>H _ _ (fun e=>by simp at e) ⟨fun e=>by simp at e,fun e=>?_⟩) (fun c2=>W.req_i (by show _/\_;omega) (W.run_if (fun c3=>H _ _ (fun e=>by simp at e) ⟨fun e=>by simp at e,fun e=>?_⟩) (fun c3=>H _ _ (fun _=>rfl) ⟨fun _=>by omega,fun _=>rfl⟩)))
  ·omega
  ·omega
 ·have h1:=(ha.bg c).1.abs
  have h2:=(ha.bg c).2
  simp only at h1
  omega
end
structure QRep (z:num_Q) (x:Rat):Prop where
 n:ZRep z.N x.num
 d:ZRep z.D x.den
section
variable {a b:num_Q} {x y:Rat} {Q:num_Q->Prop}
theorem num_Over_run {s:Nat} {n d:Int} {u v:num_Z} (hu:ZRep u n) (hv:ZRep v d) (hd:d≠0) (hs:s<=35184372087999) (sn:n.natAbs<2 ^ s) (sd:d.natAbs<2 ^ s) (H:∀ z,QRep z (Rat.divInt n d)->Q z):(num_Over.f u v).run Q:=by
 have go:∀ (n:Int) (d:Nat) (u v:num_Z),ZRep u n->ZRep v d->d≠0->n.natAbs<2 ^ s->d<2 ^ s->(∀ z,QRep z (Rat.divInt n d)->Q z)->(num_Over.j1 u v).run Q:=by
  intro n d u v hu hv hd sn sd H
  have hg0:=Nat.gcd_pos_of_pos_right n.natAbs (Nat.pos_of_ne_zero hd)
  have hnum:=over_num n d hd
  have hden:=over_den n d hd
  have sd':(d:Int).natAbs<2 ^ s:=by simpa using sd
  unfold num_Over.j1
  refine W.bd (num_Gcd_run hu hv hs sn sd' fun g hg=>?_)
  rw [Int.natAbs_natCast] at hg
  have sg:((Nat.gcd n.natAbs d:Nat):Int).natAbs<2 ^ s:=by
   rw [Int.natAbs_natCast]
   exact Nat.lt_of_le_of_lt (Nat.gcd_le_right _ (Nat.pos_of_ne_zero hd)) sd
  have div:(W.bind (num_Z_Quo.f u g) (fun r182=>W.bind (num_Z_Quo.f v g) (fun r229=>num_Over.j2 r182.1 r229.1))).run Q:=by
   refine W.bd (num_Quo_run hu hg hs sn sg (by omega) fun z1 _ hz1 _=>W.bd (num_Quo_run hv hg hs sd' sg (by omega) fun z2 _ hz2 _=>H _ ⟨?_,?_⟩))
   ·simp only
    rw [hnum,<- Int.tdiv_eq_ediv_of_dvd (Int.ofNat_dvd_left.2 (Nat.gcd_dvd_left _ _))]
    exact hz1
   ·simp only
    rw [hden]
    simpa using hz2
  refine W.run_if (fun c=>W.run_if (fun c2=>div) (fun c2=>H _ ⟨?_,?_⟩)) (fun c=>div)
  ·have h1:Nat.gcd n.natAbs d=1:=by have:=hg.sm c;omega
   rw [hnum,h1];simpa using hu
  ·have h1:Nat.gcd n.natAbs d=1:=by have:=hg.sm c;omega
   rw [hden,h1];simpa using hv
 rw [rat_over n d hd] at H
 unfold num_Over.f
 refine W.bd (num_Sign_run hv (W.run_if (fun c=>?_) (fun c=>?_)))
 ·have hneg:d<0:=by unfold sgn at c;split at c <;> omega
  rw [if_pos hneg] at H
  exact W.bd (num_Neg_run hu fun u' hu'=>W.bd (num_Neg_run hv fun v' hv'=>go _ _ _ _ hu' (by rwa [show -d=(d.natAbs:Int) by omega] at hv') (by omega) (by rw [Int.natAbs_neg];exact sn) sd H))
 ·have hneg: ¬ d<0:=fun e=>c (by unfold sgn;rw [if_pos e];decide)
  rw [if_neg hneg] at H
  exact go _ _ _ _ hu (by rwa [show d=(d.natAbs:Int) by omega] at hv) (by omega) sn sd H
theorem num_IsInt_run {Q:Bool->Prop} {s:Nat} (ha:QRep a x) (hs:s<=35184372088000) (h1:1<=s) (sx:Sz s x) (H:Q (decide (x.den=1))):(num_Q_IsInt.f a).run Q:=by
 unfold num_Q_IsInt.f
 refine W.bd (num_I_run (by show _/\_;omega) fun u hu=>W.bd (num_Cmp_run ha.d hu hs (den_len sx) ?_ ?_))
 ·have:=Nat.pow_le_pow_right (n:=2) (by decide) h1
  simp only [Nat.pow_one] at this
  show 1<2 ^ s
  omega
 ·have e:decide (sgn ((x.den:Int) - 1)=0)=decide (x.den=1):=by
   rw [decide_eq_decide]
   unfold sgn
   split
   ·constructor <;> intro h <;> omega
   ·split <;> constructor <;> intro h <;> omega
  rw [W.ret_r,e]
  exact H
theorem num_Q_Int_run {n:Int} (hn:I64 n) (H:∀ z,QRep z (n:Rat)->Q z):(num_Int.f n).run Q:=by
 unfold num_Int.f
 refine W.bd (num_I_run hn fun u hu=>W.bd (num_I_run (by show _/\_;omega) fun v hv=>H _ ⟨?_,?_⟩))
 ·simpa using hu
 ·simpa using hv
def valid (r:api_Rat):Prop:=1<=r.D/\r.D<=1000000000000/\-1000000000000<=r.N/\r.N<=1000000000000/\Nat.gcd r.N.natAbs r.D.natAbs=1
def ratOf (r:api_Rat):Rat:=Rat.divInt r.N r.D
theorem valid.num {r:api_Rat} (h:valid r):(ratOf r).num=r.N/\((ratOf r).den:Int)=r.D:=by
 obtain ⟨h1,_,_,_,hg⟩:=h
 have e:r.D=((r.D.natAbs:Nat):Int):=by omega
 have a1:=over_num r.N r.D.natAbs (by omega)
 have a2:=over_den r.N r.D.natAbs (by omega)
 rw [hg] at a1 a2
 rw [<- e] at a1 a2
 unfold ratOf
 rw [a1,a2]
 constructor
 ·simp
 ·simp;omega
theorem valid.sz {r:api_Rat} (h:valid r):Sz 40 (ratOf r):=by
 obtain ⟨h1,h2⟩:=h.num
 obtain ⟨a1,a2,a3,a4,_⟩:=h
 constructor
 ·rw [h1];omega
 ·omega
theorem num_Of_run {r:api_Rat} (h:valid r) (H:∀ z,QRep z (ratOf r)->Q z):(num_Of.f r).run Q:=by
 obtain ⟨e1,e2⟩:=h.num
 obtain ⟨a1,a2,a3,a4,_⟩:=h
 unfold num_Of.f
 refine W.bd (num_I_run (by show _/\_;omega) fun u hu=>W.bd (num_I_run (by show _/\_;omega) fun v hv=>H _ ⟨?_,?_⟩))
 ·rw [e1];exact hu
 ·rw [e2];exact hv
theorem num_Q_Add_run (ha:QRep a x) (hb:QRep b y) (ox:Ok x) (oy:Ok y) (H:∀ z,QRep z (x+y)->Q z):(num_Q_Add.f a b).run Q:=by
 obtain ⟨s,hs,sx⟩:=ox
 obtain ⟨t,ht,sy⟩:=oy
 rw [add_over] at H
 have hbits:=bits_mul sx.1 (den_len sy)
 have hbits2:=bits_mul sy.1 (den_len sx)
 rw [Nat.add_comm t s] at hbits2
 have hbits3:=bits_mul (den_len sx) (den_len sy)
 have sx':=sx.mono (Nat.le_add_right s (t+1))
 have sy':=sy.mono (show t<=s+(t+1) by omega)
 have slow:(num_Q_Add.j1 a b ⟨⟨0,[],false⟩,⟨0,[],false⟩⟩).run Q:=by
  unfold num_Q_Add.j1
  exact W.bd (num_Mul_run ha.n hb.d (by omega) (by omega) sx.1 (den_len sy) fun p hp=>W.bd (num_Mul_run hb.n ha.d (by omega) (by omega) sy.1 (den_len sx) fun q hq=>W.bd (num_Add_run hp hq (by omega) hbits hbits2 fun n hn=>W.bd (num_Mul_run ha.d hb.d (by omega) (by omega) (den_len sx) (den_len sy) fun d hd=>W.bd (num_Over_run hn hd (Int.mul_ne_zero (den_ne x) (den_ne y)) (by omega) (bits_add hbits hbits2) (bits_mono hbits3 (by omega)) H)))))
 unfold num_Q_Add.f
 refine W.bd (num_IsInt_run ha (by omega) (by omega) sx' (W.run_if (fun c=>W.bd (num_IsInt_run hb (by omega) (by omega) sy' (W.run_if (fun c2=>?_) (fun c2=>slow)))) (fun c=>slow)))
 have c1:=of_decide_eq_true c
 have c3:=of_decide_eq_true c2
 rw [c1,c3] at H
 simp only [Int.ofNat_eq_natCast,Int.natCast_one,Int.mul_one] at H
 refine W.bd (num_Add_run ha.n hb.n (by omega) sx'.1 sy'.1 fun n hn=>H _ ⟨?_,?_⟩)
 ·rw [(int_over _).1];exact hn
 ·rw [(int_over _).2];have:=ha.d;rwa [c1] at this
theorem num_Q_Mul_run (ha:QRep a x) (hb:QRep b y) (ox:Ok x) (oy:Ok y) (H:∀ z,QRep z (x*y)->Q z):(num_Q_Mul.f a b).run Q:=by
 obtain ⟨s,hs,sx⟩:=ox
 obtain ⟨t,ht,sy⟩:=oy
 rw [mul_over] at H
 have hbits:=bits_mul sx.1 sy.1
 have hbits3:=bits_mul (den_len sx) (den_len sy)
 have sx':=sx.mono (Nat.le_add_right s (t+1))
 have sy':=sy.mono (show t<=s+(t+1) by omega)
 have slow:(num_Q_Mul.j1 a b ⟨⟨0,[],false⟩,⟨0,[],false⟩⟩).run Q:=by
  unfold num_Q_Mul.j1
  exact W.bd (num_Mul_run ha.n hb.n (by omega) (by omega) sx.1 sy.1 fun n hn=>W.bd (num_Mul_run ha.d hb.d (by omega) (by omega) (den_len sx) (den_len sy) fun d hd=>W.bd (num_Over_run hn hd (Int.mul_ne_zero (den_ne x) (den_ne y)) (by omega) hbits hbits3 H)))
 unfold num_Q_Mul.f
 refine W.bd (num_IsInt_run ha (by omega) (by omega) sx' (W.run_if (fun c=>W.bd (num_IsInt_run hb (by omega) (by omega) sy' (W.run_if (fun c2=>?_) (fun c2=>slow)))) (fun c=>slow)))
 have c1:=of_decide_eq_true c
 have c3:=of_decide_eq_true c2
 rw [c1,c3] at H
 simp only [Int.ofNat_eq_natCast,Int.natCast_one,Int.mul_one] at H
 refine W.bd (num_Mul_run ha.n hb.n (by omega) (by omega) sx.1 sy.1 fun n hn=>H _ ⟨?_,?_⟩)
 ·rw [(int_over _).1];exact hn
 ·rw [(int_over _).2];have:=ha.d;rwa [c1] at this
theorem num_Q_Neg_run (ha:QRep a x) (H:∀ z,QRep z (-x)->Q z):(num_Q_Neg.f a).run Q:=by
 unfold num_Q_Neg.f
 refine W.bd (num_Neg_run ha.n fun n hn=>H _ ⟨?_,?_⟩)
 ·rw [Rat.neg_num];exact hn
 ·rw [Rat.neg_den];exact ha.d
theorem num_Q_Sub_run (ha:QRep a x) (hb:QRep b y) (ox:Ok x) (oy:Ok y) (H:∀ z,QRep z (x - y)->Q z):(num_Q_Sub.f a b).run Q:=by
 obtain ⟨t,ht,sy⟩:=oy
 rw [Rat.sub_eq_add_neg] at H
 unfold num_Q_Sub.f
 exact W.bd (num_Q_Neg_run hb fun n hn=>W.bd (num_Q_Add_run ha hn ox (sy.neg.ok ht) H))
theorem num_Q_IsZero_run {Q:Bool->Prop} (ha:QRep a x) (H:Q (decide (x=0))):(num_Q_IsZero.f a).run Q:=by
 unfold num_Q_IsZero.f
 refine W.bd (num_Sign_run ha.n ?_)
 have e:decide (sgn x.num=0)=decide (x=0):=by
  rw [decide_eq_decide,<- Rat.num_eq_zero]
  unfold sgn
  split
  ·constructor <;> intro h <;> omega
  ·split <;> constructor <;> intro h <;> omega
 rw [W.ret_r,e]
 exact H
theorem num_Q_Div_run (ha:QRep a x) (hb:QRep b y) (ox:Ok x) (oy:Ok y) (h0:y≠0) (H:∀ z,QRep z (x / y)->Q z):(num_Q_Div.f a b).run Q:=by
 obtain ⟨s,hs,sx⟩:=ox
 obtain ⟨t,ht,sy⟩:=oy
 rw [div_over] at H
 unfold num_Q_Div.f
 exact W.bd (num_Mul_run ha.n hb.d (by omega) (by omega) sx.1 (den_len sy) fun n hn=>W.bd (num_Mul_run ha.d hb.n (by omega) (by omega) (den_len sx) sy.1 fun d hd=>W.bd (num_Over_run hn hd (Int.mul_ne_zero (den_ne x) (fun e=>h0 (Rat.num_eq_zero.1 e))) (by omega) (bits_mul sx.1 (den_len sy)) (bits_mul (den_len sx) sy.1) H)))
end
end Go.Proofs.Ytgbmmbfminafnaa.E
