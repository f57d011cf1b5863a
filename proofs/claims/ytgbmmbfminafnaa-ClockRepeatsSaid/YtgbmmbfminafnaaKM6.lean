/- One word of a quotient, as the reference finds it. -/
import Derived.Test.YtgbmmbfminafnaaKM5
set_option linter.unusedVariables false
set_option linter.unusedSimpArgs false
namespace Go.Proofs.Ytgbmmbfminafnaa.E
open Go Go.RowKit
structure SubM (X0 X:List Int) (y:List Int) (lo i:Nat) (q bo ca:Int):Prop where
 len:X.length=X0.length
 wd:Wd (gn X)
 low:∀ j,j<lo->gn X j=gn X0 j
 high:∀ j,lo+i<=j->gn X j=gn X0 j
 b0:0<=bo
 b1:bo<=1
 c0:0<=ca
 c1:ca<4294967296
 val:sv (gn X) lo i - 4294967296 ^ i*(bo+ca)=sv (gn X0) lo i - q*sv (gn y) 0 i
theorem SubM.init {X0 y:List Int} {lo:Nat} {q:Int} (h:Wd (gn X0)):SubM X0 X0 y lo 0 q 0 0:=⟨rfl,h,fun _ _=>rfl,fun _ _=>rfl,by decide,by decide,by decide,by decide,by simp [sv]⟩
theorem mul_words {q x c:Int} (hq:0<=q/\q<4294967296) (hx:0<=x/\x<4294967296) (hc:0<=c/\c<4294967296):0<=q*x/\q*x<18446744073709551616/\0<=c+q*x/\c+q*x<=18446744069414584320:=by
 have h1:=Int.mul_nonneg hq.1 hx.1
 have h2:q*x<=4294967295*4294967295:=Int.mul_le_mul (by omega) (by omega) hx.1 (by omega)
 omega
theorem SubM.step {X0 X y:List Int} {lo i:Nat} {q bo ca p d:Int} (h:SubM X0 X y lo i q bo ca) (hy:Wd (gn y)) (hq:0<=q/\q<4294967296) (hk:lo+i<X.length) (hp:p=ca+q*gn y i) (hd:d=(gn X (lo+i) - p % 4294967296 - bo) % 18446744073709551616) :
  SubM X0 (X.set (lo+i) (d % 4294967296)) y lo (i+1) q (d / 9223372036854775808) (p / 4294967296):=by
 have h1:=mul_words hq (hy i) ⟨h.c0,h.c1⟩
 have h2:=h.wd (lo+i)
 have h3:=h.b0
 have h4:=h.b1
 refine ⟨by rw [List.length_set];exact h.len,h.wd.set (by omega),fun j hj=>by rw [gn_set,if_neg (by omega)];exact h.low j hj,fun j hj=>by rw [gn_set,if_neg (by omega)];exact h.high j (by omega),by omega,by omega,by omega,by omega,?_⟩
 rw [sv,sv,sv_congr (g:=gn X) (fun j _ hj=>by rw [gn_set,if_neg (by omega)]),gn_set,if_pos ⟨rfl,hk⟩,sv,bsucc,Nat.zero_add]
 have h5:=h.val
 rw [<- h.high (lo+i) (Nat.le_refl _)]
 have h6:d % 4294967296 - 4294967296*(d / 9223372036854775808)=gn X (lo+i) - p % 4294967296 - bo:=by omega
 have h7:=Int.emod_add_mul_ediv p 4294967296
 generalize (4294967296:Int) ^ i=e at *
 generalize p % 4294967296=p0 at *
 generalize p / 4294967296=p1 at *
 generalize d % 4294967296=d0 at *
 generalize d / 9223372036854775808=d1 at *
 subst hp
 grind
structure AddW (X0 X:List Int) (y:List Int) (lo i:Nat) (ca:Int):Prop where
 len:X.length=X0.length
 wd:Wd (gn X)
 low:∀ j,j<lo->gn X j=gn X0 j
 high:∀ j,lo+i<=j->gn X j=gn X0 j
 c0:0<=ca
 c1:ca<=1
 val:sv (gn X) lo i+4294967296 ^ i*ca=sv (gn X0) lo i+sv (gn y) 0 i
theorem AddW.init {X0 y:List Int} {lo:Nat} (h:Wd (gn X0)):AddW X0 X0 y lo 0 0:=⟨rfl,h,fun _ _=>rfl,fun _ _=>rfl,by decide,by decide,by simp [sv]⟩
theorem AddW.step {X0 X y:List Int} {lo i:Nat} {ca p:Int} (h:AddW X0 X y lo i ca) (hy:Wd (gn y)) (hk:lo+i<X.length) (hp:p=ca+gn X (lo+i)+gn y i):AddW X0 (X.set (lo+i) (p % 4294967296)) y lo (i+1) (p / 4294967296):=by
 have h1:=hy i
 have h2:=h.wd (lo+i)
 have h3:=h.c0
 have h4:=h.c1
 refine ⟨by rw [List.length_set];exact h.len,h.wd.set (by omega),fun j hj=>by rw [gn_set,if_neg (by omega)];exact h.low j hj,fun j hj=>by rw [gn_set,if_neg (by omega)];exact h.high j (by omega),by omega,by omega,?_⟩
 rw [sv,sv,sv_congr (g:=gn X) (fun j _ hj=>by rw [gn_set,if_neg (by omega)]),gn_set,if_pos ⟨rfl,hk⟩,sv,bsucc,Nat.zero_add]
 have h5:=h.val
 rw [<- h.high (lo+i) (Nat.le_refl _)]
 have h7:=Int.emod_add_mul_ediv p 4294967296
 generalize (4294967296:Int) ^ i=e at *
 generalize p % 4294967296=p0 at *
 generalize p / 4294967296=p1 at *
 subst hp
 grind
structure Win (X y:List Int) (lo k:Nat):Prop where
 wX:Wd (gn X)
 wy:Wd (gn y)
 k2:2<=k
 ky:y.length=k
 kX:lo+k<X.length
 top:2147483648<=gn y (k - 1)
 lt:sv (gn X) lo (k+1)<wv y*4294967296
structure Wout (X0 X y:List Int) (lo k:Nat) (q:Int):Prop where
 len:X.length=X0.length
 wd:Wd (gn X)
 low:∀ j,j<lo->gn X j=gn X0 j
 high:∀ j,lo+(k+1)<=j->gn X j=gn X0 j
 q0:0<=q
 q1:q<4294967296
 val:sv (gn X0) lo (k+1)=q*wv y+sv (gn X) lo (k+1)
 lt:sv (gn X) lo (k+1)<wv y
section
variable {X y:List Int} {lo k:Nat}
theorem Win.V (h:Win X y lo k):wv y=(gn y (k - 1)*4294967296+gn y (k - 2))*4294967296 ^ (k - 2)+sv (gn y) 0 (k - 2):=by
 obtain ⟨m,hm⟩:∃ m,k=m+2:=⟨k - 2,by have:=h.k2;omega⟩
 have:=h.ky
 subst hm
 rw [wv,this,sv,sv,Nat.zero_add,Nat.zero_add,bsucc]
 simp only [Nat.add_sub_cancel]
 rw [show m+2 - 1=m+1 by omega]
 grind
theorem Win.U (h:Win X y lo k):sv (gn X) lo (k+1)=((gn X (lo+k)*4294967296+gn X (lo+(k - 1)))*4294967296+gn X (lo+(k - 2)))*4294967296 ^ (k - 2)+sv (gn X) lo (k - 2):=by
 obtain ⟨m,hm⟩:∃ m,k=m+2:=⟨k - 2,by have:=h.k2;omega⟩
 subst hm
 rw [sv,sv,sv,bsucc,bsucc]
 simp only [Nat.add_sub_cancel]
 rw [show m+2 - 1=m+1 by omega,show lo+(m+2)=lo+(m+1+1) by omega]
 grind
theorem Win.Vpos (h:Win X y lo k):4294967296 ^ (k - 1)<=wv y/\0<wv y:=by
 have:=wv_ge h.wy (by intro h0;have:=h.ky;rw [h0] at this;simp at this;have:=h.k2;omega) (by rw [h.ky];have:=h.top;omega)
 rw [h.ky] at this
 have hp:=bpos (k - 1)
 omega
end
theorem gi_add (l:List Int) (a b:Nat):gi l ((a:Int)+(b:Int))=gn l (a+b):=by rw [gi_gn,show ((a:Int)+(b:Int)).toNat=a+b by omega]
theorem gi_at {l:List Int} {i:Int} {n:Nat} (h:i=n):gi l i=gn l n:=by rw [h,gi_nat]
section
variable {X y:List Int} {lo k:Nat} {Q:Int×List Int->Prop}
theorem word_j1 (h:Win X y lo k) (hl:X.length<=1099511627776) {q:Int} (hq:0<=q/\q<4294967296) (hge:sv (gn X) lo (k+1)<(q+1)*wv y) (hle:(q - 1)*wv y<=sv (gn X) lo (k+1)) (H:∀ q X',Wout X X' y lo k q->Q (q,X')):(ref01_word.j1 y (X,lo,k+1) q).run Q:=by
 have hky:=h.ky
 have hkX:=h.kX
 have hk2:=h.k2
 have hV:=h.Vpos
 have hB:=bpos k
 have hVlt:wv y<4294967296 ^ k:=by have:=wv_lt h.wy;rwa [hky] at this
 have e1:sv (gn y) 0 (k+1)=wv y:=wv_sv (by omega)
 have eB:(4294967296:Int) ^ (k+1)=4294967296*4294967296 ^ k:=bsucc k
 unfold ref01_word.j1
 refine W.loop_c (fun s:List Int×Int×Int×Int=>∃ i:Nat,s.2.2.2=i/\i<=k+1/\SubM X s.1 y lo i q s.2.1 s.2.2.1/\(i=k+1->s.2.2.1=0)) (fun s=>k+1 - s.2.2.2.toNat) ⟨0,rfl,Nat.zero_le _,SubM.init h.wX,fun e=>by omega⟩ ?_
 rintro ⟨X1,bo,ca,_⟩ P ⟨i,rfl,hi,hs,hz⟩ hgo hbrk hout
 simp only at hs hz hgo |-
 have hl1:X1.length=X.length:=hs.len
 have hm:=mul_words hq (h.wy i) ⟨hs.c0,hs.c1⟩
 have hw:=hs.wd (lo+i)
 have hb0:=hs.b0
 have hb1:=hs.b1
 have round:i<=k->∀ p,p=ca+q*gn y i->(ref01_word.j7 (i:Int) (X,lo,k+1) X1 bo p).run P:=by
  intro hik p hp
  unfold ref01_word.j7
  simp only
  rw [gi_add,show ((lo:Int)+(i:Int)).toNat=lo+i by omega,ishr64_63,ishr64_32]
  have hd:((gn X1 (lo+i) - p % 4294967296) % 18446744073709551616 - bo) % 18446744073709551616=(gn X1 (lo+i) - p % 4294967296 - bo) % 18446744073709551616:=by omega
  rw [hd]
  refine W.req_i (by omega) (W.req_i (by omega) (W.req_i (by show _/\_;omega) (hgo _ ⟨i+1,by simp,by omega,hs.step h.wy hq (by omega) hp rfl,fun e=>?_⟩ (by simp;omega))))
  obtain rfl:i=k:=by omega
  show p / 4294967296=0
  rw [gn_ge (l:=y) (by omega),Int.mul_zero] at hp
  have:=hs.c1
  have:=hs.c0
  omega
 unfold ref01_word.l2
 rw [hky]
 refine W.run_if (fun c=>W.run_if (fun c2=>W.req_i (by omega) ?_) (fun c2=>round (by omega) _ ?_)) (fun c=>hbrk _ ?_)
 ·rw [gi_nat]
  exact round (by omega) _ (by omega)
 ·rw [gn_ge (l:=y) (by omega)];simp
 obtain rfl:i=k+1:=by omega
 obtain rfl:ca=0:=hz rfl
 have hval:=hs.val
 rw [e1,Int.add_zero] at hval
 have hn:=sv_nonneg hs.wd lo (k+1)
 have hlt:=sv_lt hs.wd lo (k+1)
 rw [Int.add_mul,Int.one_mul] at hge
 rw [Int.sub_mul,Int.one_mul] at hle
 simp only
 refine W.run_if (fun c2=>?_) (fun c2=>?_)
 ·subst c2
  rw [W.ret_r,show q % 4294967296=q by omega]
  rw [Int.mul_zero] at hval
  exact H _ _ ⟨hs.len,hs.wd,hs.low,hs.high,hq.1,hq.2,by omega,by omega⟩
 ·obtain rfl:bo=1:=by omega
  rw [Int.mul_one] at hval
  refine W.loop_c (fun s:List Int×Int×Int=>∃ i:Nat,s.2.2=i/\i<=k+1/\AddW X1 s.1 y lo i s.2.1) (fun s=>k+1 - s.2.2.toNat) ⟨0,rfl,Nat.zero_le _,AddW.init hs.wd⟩ ?_
  rintro ⟨X2,ca,_⟩ P2 ⟨i,rfl,hi,ha⟩ hgo2 hbrk2 hout2
  simp only at ha hgo2 |-
  have hl2:X2.length=X1.length:=ha.len
  have hw:=ha.wd (lo+i)
  have hy:=h.wy i
  have hc0:=ha.c0
  have hc1:=ha.c1
  have round2:i<=k->∀ p,p=ca+gn X2 (lo+i)+gn y i->(ref01_word.j5 (i:Int) (X,lo,k+1) X2 p).run P2:=by
   intro hik p hp
   unfold ref01_word.j5
   simp only
   rw [show ((lo:Int)+(i:Int)).toNat=lo+i by omega,ishr64_32]
   exact W.req_i (by omega) (W.req_i (by show _/\_;omega) (hgo2 _ ⟨i+1,by simp,by omega,ha.step h.wy (by omega) hp⟩ (by simp;omega)))
  unfold ref01_word.l1
  rw [hky]
  simp only
  rw [gi_add]
  refine W.run_if (fun c=>W.req_i (by omega) (W.run_if (fun c2=>W.req_i (by omega) ?_) (fun c2=>round2 (by omega) _ ?_))) (fun c=>hbrk2 _ ?_)
  ·rw [gi_nat]
   exact round2 (by omega) _ (by omega)
  ·rw [gn_ge (l:=y) (by omega)];omega
  obtain rfl:i=k+1:=by omega
  have hval2:=ha.val
  rw [e1] at hval2
  have hn2:=sv_nonneg ha.wd lo (k+1)
  have hlt2:=sv_lt ha.wd lo (k+1)
  have hca:ca=1:=by
   rcases (show ca=0\/ca=1 by omega) with e | e
   ·subst e
    rw [Int.mul_zero] at hval2
    omega
   ·exact e
  subst hca
  rw [Int.mul_one] at hval2
  have hq1:1<=q:=by
   rcases Int.lt_or_le 0 q with e | e
   ·exact e
   ·obtain rfl:q=0:=by omega
    have:=sv_nonneg h.wX lo (k+1)
    omega
  show Q _
  rw [show (q - 1) % 18446744073709551616 % 4294967296=q - 1 by omega]
  refine H _ _ ⟨ha.len.trans hs.len,ha.wd,fun j hj=>(ha.low j hj).trans (hs.low j hj),fun j hj=>(ha.high j hj).trans (hs.high j hj),by omega,by omega,?_,?_⟩
  ·rw [Int.sub_mul,Int.one_mul];simp only;omega
  ·simp only;omega
end
section
variable {X y:List Int} {lo k:Nat} {Q:Int×List Int->Prop}
theorem Win.trial (h:Win X y lo k):∃ T u2 v1 v2 E V' U' qs:Int,T=gn X (lo+k)*4294967296+gn X (lo+(k - 1))/\u2=gn X (lo+(k - 2))/\v1=gn y (k - 1)/\v2=gn y (k - 2)/\0<E/\0<=V'/\V'<E/\wv y=(v1*4294967296+v2)*E+V'/\0<=U'/\U'<E/\sv (gn X) lo (k+1)=(T*4294967296+u2)*E+U'/\2147483648<=v1/\v1<4294967296/\0<=v2/\v2<4294967296/\0<=u2/\u2<4294967296/\0<=T/\T<18446744073709551616/\T<=v1*4294967296+v2/\
  qs*wv y<=sv (gn X) lo (k+1)/\sv (gn X) lo (k+1)<(qs+1)*wv y/\0<=qs/\qs<4294967296/\qs<=T / v1:=by
 have hV:=h.Vpos
 have h1:=h.wX (lo+k)
 have h2:=h.wX (lo+(k - 1))
 have h3:=h.wX (lo+(k - 2))
 have h4:=h.wy (k - 1)
 have h5:=h.wy (k - 2)
 have hE:=bpos (k - 2)
 have hVe:=h.V
 have hUe:=h.U
 have hV0:=sv_nonneg h.wy 0 (k - 2)
 have hV1:=sv_lt h.wy 0 (k - 2)
 have hU0:=sv_nonneg h.wX lo (k - 2)
 have hU1:=sv_lt h.wX lo (k - 2)
 have htop:=h.top
 have hlt:=h.lt
 have hT:=kn_top (by decide) hE hV1 hVe hU0 h3.1 hUe hlt
 have hUn:=sv_nonneg h.wX lo (k+1)
 generalize (4294967296:Int) ^ (k - 2)=E at *
 generalize sv (gn X) lo (k+1)=U at *
 generalize wv y=V at *
 generalize sv (gn y) 0 (k - 2)=V' at *
 generalize sv (gn X) lo (k - 2)=U' at *
 have d1:=Int.emod_add_mul_ediv U V
 have d2:=Int.emod_nonneg U (show V≠0 by omega)
 have d3:=Int.emod_lt_of_pos U hV.2
 have d4:U / V<4294967296:=Int.ediv_lt_of_lt_mul hV.2 (by rw [Int.mul_comm];exact hlt)
 have d5:0<=U / V:=Int.ediv_nonneg hUn (by omega)
 have d6:U / V*V<=U:=by rw [Int.mul_comm];omega
 refine ⟨_,_,_,_,E,V',U',U / V,rfl,rfl,rfl,rfl,hE,hV0,hV1,hVe,hU0,hU1,hUe,htop,h4.2,h5.1,h5.2,h3.1,h3.2,by omega,by omega,hT,d6,by rw [Int.add_mul,Int.one_mul,Int.mul_comm];omega,d5,d4,?_⟩
 apply Int.le_ediv_of_mul_le (by omega)
 apply Int.lt_add_one_iff.mp
 have hBE:0<4294967296*E:=by omega
 apply Int.lt_of_mul_lt_mul_right (a:=4294967296*E) _ (Int.le_of_lt hBE)
 have p1:U / V*(gn y (k - 1)*(4294967296*E))<=U / V*V:=Int.mul_le_mul_of_nonneg_left (by
  rw [hVe]
  have:=Int.mul_nonneg h5.1 (Int.le_of_lt hE)
  grind) d5
 have p2:U<(gn X (lo+k)*4294967296+gn X (lo+(k - 1))+1)*(4294967296*E):=by
  rw [hUe]
  have:gn X (lo+(k - 2))*E<=4294967295*E:=Int.mul_le_mul_of_nonneg_right (by omega) (Int.le_of_lt hE)
  grind
 rw [Int.mul_assoc]
 omega
theorem ref01_word_run (h:Win X y lo k) (hl:X.length<=1099511627776) {x2 x3:Int} (h2:x2=gn y (k - 1)) (h3:x3=gn y (k - 2)) (H:∀ q X',Wout X X' y lo k q->Q (q,X')):(ref01_word.f (X,lo,k+1) y x2 x3).run Q:=by
 obtain ⟨T,u2,v1,v2,E,V',U',qs,hT,hu2,hv1,hv2,hE,hV0,hV1,hVe,hU0,hU1,hUe,c1,c2,c3,c4,c5,c6,c7,c8,c9,d1,d2,d3,d4,d5⟩:=h.trial
 have hky:=h.ky
 have hkX:=h.kX
 have hk2:=h.k2
 have w1:=h.wX (lo+k)
 have w2:=h.wX (lo+(k - 1))
 unfold ref01_word.f
 simp only
 rw [hky,gi_add,gi_at (show (lo:Int)+((k:Int) - 1)=((lo+(k - 1):Nat):Int) by omega),ior64_32 w1.1 w1.2 w2.1 w2.2,<- hT]
 obtain rfl:x2=v1:=by rw [h2,hv1]
 obtain rfl:x3=v2:=by rw [h3,hv2]
 rw [Int.tdiv_eq_ediv_of_nonneg c7]
 have q0:0<=T / x2:=Int.ediv_nonneg c7 (by omega)
 obtain ⟨q,hq,hqq⟩:∃ q,mn (T / x2) 4294967295=q/\(q=T / x2/\q<=4294967295\/q=4294967295/\q<=T / x2):=⟨_,rfl,by rcases mn_or (T / x2) 4294967295 with ⟨a,b⟩ | ⟨a,b⟩ <;> rw [a] <;> omega⟩
 rw [hq]
 have m0:=Int.emod_add_mul_ediv T x2
 have m1:=Int.emod_nonneg T (show x2≠0 by omega)
 have m2:=Int.emod_lt_of_pos T (show 0<x2 by omega)
 have hqx:q*x2<=T:=by
  have:q*x2<=T / x2*x2:=Int.mul_le_mul_of_nonneg_right (by omega) (by omega)
  rw [Int.mul_comm (T / x2)] at this
  omega
 have hqx0:0<=q*x2:=Int.mul_nonneg (by omega) (by omega)
 have hr:T - q*x2<8589934592:=by
  rcases hqq with ⟨e,_⟩ | ⟨e,_⟩
  ·rw [e,Int.mul_comm];omega
  ·rw [e];omega
 rw [show (q*x2) % 18446744073709551616=q*x2 by omega,show (T - q*x2) % 18446744073709551616=T - q*x2 by omega]
 refine W.req_i (by omega) (W.req_i (by omega) (W.req_i (by omega) ?_))
 refine W.loop_c (fun s:Int×Int=>qs<=s.1/\s.1<=4294967295/\0<=s.2/\s.2<8589934592/\s.1*x2+s.2=T) (fun s=>s.1.toNat) ⟨by omega,by omega,by simp only;omega,hr,by simp only;omega⟩ ?_
 rintro ⟨q,r⟩ P ⟨g1,g2,g3,g4,g5⟩ hgo hbrk hout
 simp only at g1 g2 g3 g4 g5 hgo |-
 have hgood:q*x3<=r*4294967296+u2->(ref01_word.j1 y (X,lo,k+1) q).run Q:=fun hok=>
  word_j1 h hl ⟨by omega,by omega⟩ (by
   have:(qs+1)*wv y<=(q+1)*wv y:=Int.mul_le_mul_of_nonneg_right (by omega) (Int.le_of_lt h.Vpos.2)
   omega) (kn_ok (by decide) hE (by omega) c3 hV0 hV1 hVe hU0 hUe (by omega) (by omega) g5 hok) H
 unfold ref01_word.l3
 simp only
 rw [hky]
 refine W.run_if (fun k1=>?_) (fun k1=>hbrk _ (hgood (kn_rest (by decide) (by omega) c3 (by omega) (by omega) c5 (by omega))))
 have w3:=h.wX (lo+(k - 2))
 rw [gi_at (show (lo:Int)+((k:Int) - 2)=((lo+(k - 2):Nat):Int) by omega),ior64_32 g3 k1 w3.1 w3.2,<- hu2]
 have hm:=mul_words (q:=q) (x:=x3) (c:=0) ⟨by omega,by omega⟩ ⟨c3,c4⟩ ⟨by decide,by decide⟩
 rw [show (q*x3) % 18446744073709551616=q*x3 by omega]
 refine W.req_i (by omega) (W.run_if (fun k2=>?_) (fun k2=>hbrk _ (hgood (by omega))))
 have hbig:=kn_big hE hV0 hVe hU1 hUe (by omega) g5 k2
 have hqs:qs<q:=by
  rcases Int.lt_or_le qs q with e | e
  ·exact e
  ·have:q*wv y<=qs*wv y:=Int.mul_le_mul_of_nonneg_right e (Int.le_of_lt h.Vpos.2)
   omega
 refine hgo _ ⟨?_,?_,?_,?_,?_⟩ ?_ <;> simp only
 ·omega
 ·omega
 ·omega
 ·omega
 ·rw [show (q - 1) % 18446744073709551616=q - 1 by omega,show (r+x2) % 18446744073709551616=r+x2 by omega,Int.sub_mul]
  omega
 ·omega
end
end Go.Proofs.Ytgbmmbfminafnaa.E
