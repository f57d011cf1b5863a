/- One word of a quotient, as the reference finds it. -/
import Derived.Test.YtgbmmbfminafnaaKM5
set_option linter.unusedVariables false
set_option linter.unusedSimpArgs false
namespace Go.Proofs.Ytgbmmbfminafnaa.E
open Go Go.RowKit
structure SubM (X0 X:List Int) (y:List Int) (lo i:Nat) (q bo ca:Int):Prop where
 len:X.length=X0.length
 wd:Wd (gn X)
 low:∀ j,j<lo->gn X j=gn X0 j
 high:∀ j,lo+i<=j->gn X j=gn X0 j
 b0:0<=bo
 b1:bo<=1
 c0:0<=ca
 c1:ca<4294967296
 val:sv (gn X) lo i - 4294967296 ^ i*(bo+ca)=sv (gn X0) lo i - q*sv (gn y) 0 i
theorem SubM.init {X0 y:List Int} {lo:Nat} {q:Int} (h:Wd (gn X0)):SubM X0 X0 y lo 0 q 0 0:=⟨rfl,h,fun _ _=>rfl,fun _ _=>rfl,by decide,by decide,by decide,by decide,by simp [sv]⟩
theorem mul_words {q x c:Int} (hq:0<=q/\q<4294967296) (hx:0<=x/\x<4294967296) (hc:0<=c/\c<4294967296):0<=q*x/\q*x<18446744073709551616/\0<=c+q*x/\c+q*x<=18446744069414584320:=by
 have h1:=Int.mul_nonneg hq.1 hx.1
 have h2:q*x<=4294967295*4294967295:=Int.mul_le_mul (by omega) (by omega) hx.1 (by omega)
 omega
theorem SubM.step {X0 X y:List Int} {lo i:Nat} {q bo ca p d:Int} (h:SubM X0 X y lo i q bo ca) (hy:Wd (gn y)) (hq:0<=q/\q<4294967296) (hk:lo+i<X.length) (hp:p=ca+q*gn y i) (hd:d=(gn X (lo+i) - p % 4294967296 - bo) % 18446744073709551616) :
  SubM X0 (X.set (lo+i) (d % 4294967296)) y lo (i+1) q (d / 9223372036854775808) (p / 4294967296):=by
 have h1:=mul_words hq (hy i) ⟨h.c0,h.c1⟩
 have h2:=h.wd (lo+i)
 have h3:=h.b0
 have h4:=h.b1
 refine ⟨by rw [List.length_set];exact h.len,h.wd.set (by omega),fun j hj=>by rw [gn_set,if_neg (by omega)];exact h.low j hj,fun j hj=>by rw [gn_set,if_neg (by omega)];exact h.high j (by omega),by omega,by omega,by omega,by omega,?_⟩
 rw [sv,sv,sv_congr (g:=gn X) (fun j _ hj=>by rw [gn_set,if_neg (by omega)]),gn_set,if_pos ⟨rfl,hk⟩,sv,bsucc,Nat.zero_add]
 have h5:=h.val
 rw [<- h.high (lo+i) (Nat.le_refl _)]
 have h6:d % 4294967296 - 4294967296*(d / 9223372036854775808)=gn X (lo+i) - p % 4294967296 - bo:=by omega
 have h7:=Int.emod_add_mul_ediv p 4294967296
 generalize (4294967296:Int) ^ i=e at *
 generalize p % 4294967296=p0 at *
 generalize p / 4294967296=p1 at *
 generalize d % 4294967296=d0 at *
 generalize d / 9223372036854775808=d1 at *
 subst hp
 grind
structure AddW (X0 X:List Int) (y:List Int) (lo i:Nat) (ca:Int):Prop where
 len:X.length=X0.length
 wd:Wd (gn X)
 low:∀ j,j<lo->gn X j=gn X0 j
 high:∀ j,lo+i<=j->gn X j=gn X0 j
 c0:0<=ca
 c1:ca<=1
 val:sv (gn X) lo i+4294967296 ^ i*ca=sv (gn X0) lo i+sv (gn y) 0 i
theorem AddW.init {X0 y:List Int} {lo:Nat} (h:Wd (gn X0)):AddW X0 X0 y lo 0 0:=⟨rfl,h,fun _ _=>rfl,fun _ _=>rfl,by decide,by decide,by simp [sv]⟩
theorem AddW.step {X0 X y:List Int} {lo i:Nat} {ca p:Int} (h:AddW X0 X y lo i ca) (hy:Wd (gn y)) (hk:lo+i<X.length) (hp:p=ca+gn X (lo+i)+gn y i):AddW X0 (X.set (lo+i) (p % 4294967296)) y lo (i+1) (p / 4294967296):=by
 have h1:=hy i
 have h2:=h.wd (lo+i)
 have h3:=h.c0
 have h4:=h.c1
 refine ⟨by rw [List.length_set];exact h.len,h.wd.set (by omega),fun j hj=>by rw [gn_set,if_neg (by omega)];exact h.low j hj,fun j hj=>by rw [gn_set,if_neg (by omega)];exact h.high j (by omega),by omega,by omega,?_⟩
 rw [sv,sv,sv_congr (g:=gn X) (fun j _ hj=>by rw [gn_set,if_neg (by omega)]),gn_set,if_pos ⟨rfl,hk⟩,sv,bsucc,Nat.zero_add]
 have h5:=h.val
 rw [<- h.high (lo+i) (Nat.le_refl _)]
 have h7:=Int.emod_add_mul_ediv p 4294967296
 generalize (4294967296:Int) ^ i=e at *
 generalize p % 4294967296=p0 at *
 generalize p / 4294967296=p1 at *
 subst hp
 grind
structure Win (X y:List Int) (lo k:Nat):Prop where
 wX:Wd (gn X)
 wy:Wd (gn y)
 k2:2<=k
 ky:y.length=k
 kX:lo+k<X.length
 top:2147483648<=gn y (k - 1)
 lt:sv (gn X) lo (k+1)<wv y*4294967296
structure Wout (X0 X y:List Int) (lo k:Nat) (q:Int):Prop where
 len:X.length=X0.length
 wd:Wd (gn X)
 low:∀ j,j<lo->gn X j=gn X0 j
 high:∀ j,lo+(k+1)<=j->gn X j=gn X0 j
 q0:0<=q
 q1:q<4294967296
 val:sv (gn X0) lo (k+1)=q*wv y+sv (gn X) lo (k+1)
 lt:sv (gn X) lo (k+1)<wv y
section
variable {X y:List Int} {lo k:Nat}
theorem Win.V (h:Win X y lo k):wv y=(gn y (k - 1)*4294967296+gn y (k - 2))*4294967296 ^ (k - 2)+sv (gn y) 0 (k - 2):=by
 obtain ⟨m,hm⟩:∃ m,k=m+2:=⟨k - 2,by have:=h.k2;omega⟩
 have:=h.ky
 subst hm
 rw [wv,this,sv,sv,Nat.zero_add,Nat.zero_add,bsucc]
 simp only [Nat.add_sub_cancel]
 rw [show m+2 - 1=m+1 by omega]
 grind
theorem Win.U (h:Win X y lo k):sv (gn X) lo (k+1)=((gn X (lo+k)*4294967296+gn X (lo+(k - 1)))*4294967296+gn X (lo+(k - 2)))*4294967296 ^ (k - 2)+sv (gn X) lo (k - 2):=by
 obtain ⟨m,hm⟩:∃ m,k=m+2:=⟨k - 2,by have:=h.k2;omega⟩
 subst hm
 rw [sv,sv,sv,bsucc,bsucc]
 simp only [Nat.add_sub_cancel]
 rw [show m+2 - 1=m+1 by omega,show lo+(m+2)=lo+(m+1+1) by omega]
 grind
theorem Win.Vpos (h:Win X y lo k):4294967296 ^ (k - 1)<=wv y/\0<wv y:=by
 have:=wv_ge h.wy (by intro h0;have:=h.ky;rw [h0] at this;simp at this;have:=h.k2;omega) (by rw [h.ky];have:=h.top;omega)
 rw [h.ky] at this
 have hp:=bpos (k - 1)
 omega
end
theorem gi_add (l:List Int) (a b:Nat):gi l ((a:Int)+(b:Int))=gn l (a+b):=by rw [gi_gn,show ((a:Int)+(b:Int)).toNat=a+b by omega]
theorem gi_at {l:List Int} {i:Int} {n:Nat} (h:i=n):gi l i=gn l n:=by rw [h,gi_nat]
section
variable {X y:List Int} {lo k:Nat} {Q:Int×List Int->Prop}
end
section
variable {X y:List Int} {lo k:Nat} {Q:Int×List Int->Prop}
theorem Win.trial (h:Win X y lo k):∃ T u2 v1 v2 E V' U' qs:Int,T=gn X (lo+k)*4294967296+gn X (lo+(k - 1))/\u2=gn X (lo+(k - 2))/\v1=gn y (k - 1)/\v2=gn y (k - 2)/\0<E/\0<=V'/\V'<E/\wv y=(v1*4294967296+v2)*E+V'/\0<=U'/\U'<E/\sv (gn X) lo (k+1)=(T*4294967296+u2)*E+U'/\2147483648<=v1/\v1<4294967296/\0<=v2/\v2<4294967296/\0<=u2/\u2<4294967296/\0<=T/\T<18446744073709551616/\T<=v1*4294967296+v2/\
  qs*wv y<=sv (gn X) lo (k+1)/\sv (gn X) lo (k+1)<(qs+1)*wv y/\0<=qs/\qs<4294967296/\qs<=T / v1:=by
 have hV:=h.Vpos
 have h1:=h.wX (lo+k)
 have h2:=h.wX (lo+(k - 1))
 have h3:=h.wX (lo+(k - 2))
 have h4:=h.wy (k - 1)
 have h5:=h.wy (k - 2)
 have hE:=bpos (k - 2)
 have hVe:=h.V
 have hUe:=h.U
 have hV0:=sv_nonneg h.wy 0 (k - 2)
 have hV1:=sv_lt h.wy 0 (k - 2)
 have hU0:=sv_nonneg h.wX lo (k - 2)
 have hU1:=sv_lt h.wX lo (k - 2)
 have htop:=h.top
 have hlt:=h.lt
 have hT:=kn_top (by decide) hE hV1 hVe hU0 h3.1 hUe hlt
 have hUn:=sv_nonneg h.wX lo (k+1)
 generalize (4294967296:Int) ^ (k - 2)=E at *
 generalize sv (gn X) lo (k+1)=U at *
 generalize wv y=V at *
 generalize sv (gn y) 0 (k - 2)=V' at *
 generalize sv (gn X) lo (k - 2)=U' at *
 have d1:=Int.emod_add_mul_ediv U V
 have d2:=Int.emod_nonneg U (show V≠0 by omega)
 have d3:=Int.emod_lt_of_pos U hV.2
 have d4:U / V<4294967296:=Int.ediv_lt_of_lt_mul hV.2 (by rw [Int.mul_comm];exact hlt)
 have d5:0<=U / V:=Int.ediv_nonneg hUn (by omega)
 have d6:U / V*V<=U:=by rw [Int.mul_comm];omega
 refine ⟨_,_,_,_,E,V',U',U / V,rfl,rfl,rfl,rfl,hE,hV0,hV1,hVe,hU0,hU1,hUe,htop,h4.2,h5.1,h5.2,h3.1,h3.2,by omega,by omega,hT,d6,by rw [Int.add_mul,Int.one_mul,Int.mul_comm];omega,d5,d4,?_⟩
 apply Int.le_ediv_of_mul_le (by omega)
 apply Int.lt_add_one_iff.mp
 have hBE:0<4294967296*E:=by omega
 apply Int.lt_of_mul_lt_mul_right (a:=4294967296*E) _ (Int.le_of_lt hBE)
 have p1:U / V*(gn y (k - 1)*(4294967296*E))<=U / V*V:=Int.mul_le_mul_of_nonneg_left (by
  rw [hVe]
  have:=Int.mul_nonneg h5.1 (Int.le_of_lt hE)
  grind) d5
 have p2:U<(gn X (lo+k)*4294967296+gn X (lo+(k - 1))+1)*(4294967296*E):=by
  rw [hUe]
  have:gn X (lo+(k - 2))*E<=4294967295*E:=Int.mul_le_mul_of_nonneg_right (by omega) (Int.le_of_lt hE)
  grind
 rw [Int.mul_assoc]
 omega
end
end Go.Proofs.Ytgbmmbfminafnaa.E
