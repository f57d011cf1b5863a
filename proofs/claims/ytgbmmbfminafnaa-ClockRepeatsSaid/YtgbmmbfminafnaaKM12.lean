/- The program's integers: products. -/
import Derived.Test.YtgbmmbfminafnaaKM11
set_option linter.unusedVariables false
set_option linter.unusedSimpArgs false
namespace Go.Proofs.Ytgbmmbfminafnaa.E
open Go Go.RowKit
theorem bits_Mul64_run {x y:Int} {Q:Int×Int->Prop} (hx:0<=x/\x<18446744073709551616) (hy:0<=y/\y<18446744073709551616) (H:Q (x*y / 18446744073709551616,x*y % 18446744073709551616)):(bits_Mul64.f x y).run Q:=by
 unfold bits_Mul64.f
 rw [iand64_32 hx.1 hx.2,iand64_32 hy.1 hy.2]
 simp only [ishr64_32]
 have ex:=Int.emod_add_mul_ediv x 4294967296
 have ey:=Int.emod_add_mul_ediv y 4294967296
 have hx0:0<=x % 4294967296/\x % 4294967296<4294967296:=by omega
 have hx1:0<=x / 4294967296/\x / 4294967296<4294967296:=by omega
 have hy0:0<=y % 4294967296/\y % 4294967296<4294967296:=by omega
 have hy1:0<=y / 4294967296/\y / 4294967296<4294967296:=by omega
 generalize x % 4294967296=x0 at *
 generalize x / 4294967296=x1 at *
 generalize y % 4294967296=y0 at *
 generalize y / 4294967296=y1 at *
 have p00:=mul_words hx0 hy0 (c:=0) (by omega)
 have p10:=mul_words hx1 hy0 (c:=0) (by omega)
 have p01:=mul_words hx0 hy1 (c:=0) (by omega)
 have p11:=mul_words hx1 hy1 (c:=0) (by omega)
 have q00:x0*y0<=18446744065119617025:=by have:x0*y0<=4294967295*4294967295:=Int.mul_le_mul (by omega) (by omega) hy0.1 (by omega);omega
 have q10:x1*y0<=18446744065119617025:=by have:x1*y0<=4294967295*4294967295:=Int.mul_le_mul (by omega) (by omega) hy0.1 (by omega);omega
 have q01:x0*y1<=18446744065119617025:=by have:x0*y1<=4294967295*4294967295:=Int.mul_le_mul (by omega) (by omega) hy1.1 (by omega);omega
 have q11:x1*y1<=18446744065119617025:=by have:x1*y1<=4294967295*4294967295:=Int.mul_le_mul (by omega) (by omega) hy1.1 (by omega);omega
 have hxy:x*y=x1*y1*18446744073709551616+(x1*y0+x0*y1)*4294967296+x0*y0:=by
  rw [<- ex,<- ey];grind
 have i1:iand .u64 ((x1*y0 % 18446744073709551616+x0*y0 % 18446744073709551616 / 4294967296) % 18446744073709551616) 4294967295=(x1*y0+x0*y0 / 4294967296) % 4294967296:=by
  rw [show (x1*y0 % 18446744073709551616+x0*y0 % 18446744073709551616 / 4294967296) % 18446744073709551616=x1*y0+x0*y0 / 4294967296 by omega]
  exact iand64_32 (by omega) (by omega)
 rw [i1,W.ret_r]
 generalize x1*y1=m11 at *
 generalize x1*y0=m10 at *
 generalize x0*y1=m01 at *
 generalize x0*y0=m00 at *
 rw [hxy] at H |-
 have e:((m11 % 18446744073709551616+(m10 % 18446744073709551616+m00 % 18446744073709551616 / 4294967296) % 18446744073709551616 / 4294967296) % 18446744073709551616+((m10+m00 / 4294967296) % 4294967296+m01 % 18446744073709551616) % 18446744073709551616 / 4294967296) % 18446744073709551616=(m11*18446744073709551616+(m10+m01)*4294967296+m00) / 18446744073709551616:=by omega
 rw [e]
 exact H
section
variable {a b:num_Z} {x y:Int} {Q:num_Z->Prop}
theorem num_Mul_run {s t:Nat} (ha:ZRep a x) (hb:ZRep b y) (hs:s<=35184372088000) (ht:t<=35184372088000) (sx:x.natAbs<2 ^ s) (sy:y.natAbs<2 ^ t) (H:∀ z,ZRep z (x*y)->Q z):(num_Z_Mul.f a b).run Q:=by
 have hva:=i64_iff.1 ha.v
 have hvb:=i64_iff.1 hb.v
 have slow:(num_Z_Mul.j1 a b ⟨0,[],false⟩).run Q:=by
  unfold num_Z_Mul.j1
  refine W.bd (num_words_run ha fun A n1 w1=>W.bd (num_words_run hb fun B n2 w2=>?_))
  have v1:=w1.val
  have v2:=w2.val
  have l1:=w1.len sx
  have l2:=w2.len sy
  have wA:=w1.wd
  have wB:=w2.wd
  simp only at v1 v2 l1 l2 wA wB |-
  refine W.req_i (by omega) ?_
  refine W.loop_c (fun s:List Int×Int=>∃ i:Nat,s.2=i/\i<=A.length/\Rows A B s.1 i) (fun s=>A.length - s.2.toNat) ⟨0,rfl,Nat.zero_le _,Rows.init (by omega)⟩ ?_
  rintro ⟨out0,_⟩ P ⟨i,rfl,hi,hR⟩ hgo hbrk hout
  simp only at hR hgo |-
  unfold num_Z_Mul.l1
  simp only
  refine W.run_if (fun c1=>?_) (fun c1=>hbrk _ ?_)
  ·refine W.loop_c (fun s:List Int×Int×Int=>∃ k:Nat,s.2.2=k/\k<=B.length/\Row out0 s.1 B i k (gn A i) s.2.1) (fun s=>B.length - s.2.2.toNat) ⟨0,rfl,Nat.zero_le _,Row.init hR.wd⟩ ?_
   rintro ⟨out,c,_⟩ P2 ⟨k,rfl,hk,hr⟩ hgo2 hbrk2 hout2
   simp only at hr hgo2 |-
   have hl:out.length=A.length+B.length:=by rw [hr.len,hR.len]
   unfold num_Z_Mul.l2
   simp only
   refine W.run_if (fun c2=>?_) (fun c2=>hbrk2 _ ?_)
   ·have e2:((i:Int)+(k:Int)).toNat=i+k:=by omega
    rw [e2,gi_add,gi_nat,gi_nat]
    have h1:=times_step (hr.wd (i+k)) (wA i) (wB k) ⟨hr.c0,hr.c1⟩
    have h2:=hr.wd (i+k)
    have h3:=hr.c0
    have h4:=hr.c1
    refine W.req_i (by show _/\_;omega) (W.req_i (by omega) (W.req_i (by omega) (W.req_i (by omega) (W.req_i (by show _/\_;omega) (W.req_i (by omega) (hgo2 _ ⟨k+1,by simp,by omega,?_⟩ (by simp;omega)))))))
    have h5:((gn out (i+k)+(gn A i*gn B k) % 18446744073709551616) % 18446744073709551616+c) % 18446744073709551616=c+gn A i*gn B k+gn out (i+k):=by omega
    rw [h5,ishr64_32]
    exact hr.step wB (wA i) (by omega) rfl
   ·obtain rfl:k=B.length:=by omega
    unfold num_Z_Mul.j4
    simp only
    have e2:((i:Int)+(B.length:Int)).toNat=i+B.length:=by omega
    refine W.req_i (by show _/\_;omega) (W.req_i (by omega) (hgo _ ⟨i+1,by simp,by omega,?_⟩ (by simp;omega)))
    rw [e2]
    exact hR.next hr (by omega)
  ·obtain rfl:i=A.length:=by omega
   unfold num_Z_Mul.j2
   refine W.bd (num_made_run hR.wd fun z hz=>H z ?_)
   rw [hR.end_] at hz
   have e:(if (!(n1 == n2))=true then - (wv A*wv B) else wv A*wv B)=x*y:=by
    rw [v1,v2]
    cases n1 <;> cases n2 <;> simp [Int.mul_neg,Int.neg_mul]
   simpa only [e] using hz
 have quick:∀ u v,a.m= []->b.m= []->u=(x.natAbs:Int)->v=(y.natAbs:Int)->(num_Z_Mul.j6 u a b v).run Q:=by
  intro u v c c2 hu hv
  have e1:=ha.sm c
  have e2:=hb.sm c2
  unfold num_Z_Mul.j6
  refine W.bd (bits_Mul64_run (by omega) (by omega) ?_)
  simp only
  have hn:u*v=((x*y).natAbs:Int):=by rw [hu,hv,Int.natAbs_mul];simp
  refine W.run_if (fun k1=>W.run_if (fun k2=>?_) (fun k2=>slow)) (fun k1=>slow)
  have h0:0<=u*v:=by omega
  have e3:u*v % 18446744073709551616=u*v:=by omega
  rw [e3] at k2 |-
  rw [wrap_i64 (by omega) k2]
  have sg:(x*y<0\/x*y=0)\/0<x*y:=by omega
  have d1:(decide (a.v<0) == decide (b.v<0))=true ↔ (x<0 ↔ y<0):=by rw [<- e1,<- e2];simp
  refine W.run_if (fun k3=>H _ ?_) (fun k3=>W.req_i (by show _/\_;omega) (H _ ?_))
  ·have k4:=d1.1 k3
   have:0<=x*y:=by
    by_cases hx:x<0
    ·exact Int.mul_nonneg_of_nonpos_of_nonpos (by omega) (by have:=k4.1 hx;omega)
    ·exact Int.mul_nonneg (by omega) (by have: ¬ y<0:=fun h=>hx (k4.2 h);omega)
   rw [show u*v=x*y by omega]
   exact ZRep.int (by show _/\_;omega)
  ·have:x*y<=0:=by
    by_cases hx:x<0
    ·have hy: ¬ y<0:=fun h=>k3 (d1.2 (by simp [hx,h]))
     exact Int.mul_nonpos_of_nonpos_of_nonneg (by omega) (by omega)
    ·by_cases hy:y<0
     ·exact Int.mul_nonpos_of_nonneg_of_nonpos (by omega) (by omega)
     ·exact absurd (d1.2 (by simp [hx,hy])) k3
   rw [show -(u*v)=x*y by omega]
   exact ZRep.int (by show _/\_;omega)
 unfold num_Z_Mul.f
 refine W.run_if (fun c=>W.run_if (fun c2=>?_) (fun c2=>slow)) (fun c=>slow)
 have e1:=ha.sm c
 have e2:=hb.sm c2
 unfold num_Z_Mul.j5
 exact W.run_if (fun k1=>W.run_if (fun k2=>quick _ _ c c2 (by omega) (by omega)) (fun k2=>quick _ _ c c2 (by omega) (by omega))) (fun k1=>W.run_if (fun k2=>quick _ _ c c2 (by omega) (by omega)) (fun k2=>quick _ _ c c2 (by omega) (by omega)))
end
end Go.Proofs.Ytgbmmbfminafnaa.E
