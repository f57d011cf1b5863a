/- The program's integers: one word of a quotient. -/
import Derived.Test.YtgbmmbfminafnaaKM12
set_option linter.unusedVariables false
set_option linter.unusedSimpArgs false
namespace Go.Proofs.Ytgbmmbfminafnaa.E
open Go Go.RowKit
section
variable {X X1 X2 y:List Int} {lo k:Nat}
theorem SubM.fin {q:Int} (h:Win X y lo k) (hs:SubM X X1 y lo (k+1) q 0 0) (hq:0<=q/\q<4294967296) (hge:sv (gn X) lo (k+1)<(q+1)*wv y):Wout X X1 y lo k q:=by
 have e1:sv (gn y) 0 (k+1)=wv y:=wv_sv (by rw [h.ky];omega)
 have hval:=hs.val
 rw [e1,Int.add_zero,Int.mul_zero] at hval
 rw [Int.add_mul,Int.one_mul] at hge
 exact ⟨hs.len,hs.wd,hs.low,hs.high,hq.1,hq.2,by omega,by omega⟩
theorem SubM.fin2 {q ca:Int} (h:Win X y lo k) (hs:SubM X X1 y lo (k+1) q 1 0) (ha:AddW X1 X2 y lo (k+1) ca) (hq:0<=q/\q<4294967296) (hle:(q - 1)*wv y<=sv (gn X) lo (k+1)):Wout X X2 y lo k (q - 1):=by
 have e1:sv (gn y) 0 (k+1)=wv y:=wv_sv (by rw [h.ky];omega)
 have hV:=h.Vpos
 have hVlt:wv y<4294967296 ^ k:=by have:=wv_lt h.wy;rwa [h.ky] at this
 have eB:(4294967296:Int) ^ (k+1)=4294967296*4294967296 ^ k:=bsucc k
 have hB:=bpos k
 have hval:=hs.val
 rw [e1,Int.add_zero,Int.mul_one] at hval
 rw [Int.sub_mul,Int.one_mul] at hle
 have hlt:=sv_lt hs.wd lo (k+1)
 have hval2:=ha.val
 rw [e1] at hval2
 have hn2:=sv_nonneg ha.wd lo (k+1)
 have hlt2:=sv_lt ha.wd lo (k+1)
 have hc0:=ha.c0
 have hc1:=ha.c1
 have hca:ca=1:=by
  rcases (show ca=0\/ca=1 by omega) with e | e
  ·subst e
   rw [Int.mul_zero] at hval2
   omega
  ·exact e
 subst hca
 rw [Int.mul_one] at hval2
 have hq1:1<=q:=by
  rcases Int.lt_or_le 0 q with e | e
  ·exact e
  ·obtain rfl:q=0:=by omega
   have:=sv_nonneg h.wX lo (k+1)
   omega
 refine ⟨ha.len.trans hs.len,ha.wd,fun j hj=>(ha.low j hj).trans (hs.low j hj),fun j hj=>(ha.high j hj).trans (hs.high j hj),by omega,by omega,?_,by omega⟩
 rw [Int.sub_mul,Int.one_mul];omega
theorem SubM.step' {q bo ca p d:Int} {i:Nat} (h:SubM X X1 y lo i q bo ca) (hy:Wd (gn y)) (hq:0<=q/\q<4294967296) (hk:lo+i<X1.length) (hp:p=ca+q*gn y i) (hd:d=gn X1 (lo+i) - bo - p % 4294967296) :
  SubM X (X1.set (lo+i) (d % 4294967296)) y lo (i+1) q (if d<0 then 1 else 0) (p / 4294967296):=by
 have h1:=mul_words hq (hy i) ⟨h.c0,h.c1⟩
 have h2:=h.wd (lo+i)
 have h3:=h.b0
 have h4:=h.b1
 have:=h.step hy hq hk hp (d:=d % 18446744073709551616) (by rw [hd];congr 1;omega)
 rw [show d % 18446744073709551616 % 4294967296=d % 4294967296 by omega,show d % 18446744073709551616 / 9223372036854775808=if d<0 then 1 else 0 by split <;> omega] at this
 exact this
end
section
variable {X y out:List Int} {lo k:Nat} {P:Ctl (List Int×List Int×Int) (List Int×List Int)->Prop}
theorem num_word_j7 (h:Win X y lo k) (hl:X.length<=1099511627776) (hlo:lo<out.length) {q:Int} (hq:0<=q/\q<4294967296) (hge:sv (gn X) lo (k+1)<(q+1)*wv y) (hle:(q - 1)*wv y<=sv (gn X) lo (k+1)) (H:∀ q X',Wout X X' y lo k q->P (.go (X',out.set lo q,(lo:Int) - 1))):(num_quoWords.j7 y (lo:Int) X out q).run P:=by
 have hky:=h.ky
 have hkX:=h.kX
 have hk2:=h.k2
 have fin:∀ q X',Wout X X' y lo k q->(num_quoWords.j9 (lo:Int) out X' q).run P:=by
  intro q X' hw
  unfold num_quoWords.j9 num_quoWords.j6
  have h1:=hw.q0
  have h2:=hw.q1
  rw [Int.toNat_natCast,show q % 4294967296=q by omega]
  exact W.req_i (by omega) (H q X' hw)
 unfold num_quoWords.j7
 refine W.loop_c (fun s:List Int×Int×Int×Int=>∃ i:Nat,s.2.2.2=i/\i<=k/\SubM X s.1 y lo i q s.2.1 s.2.2.1) (fun s=>k - s.2.2.2.toNat) ⟨0,rfl,Nat.zero_le _,SubM.init h.wX⟩ ?_
 rintro ⟨X1,bo,ca,_⟩ P1 ⟨i,rfl,hi,hs⟩ hgo hbrk hout
 simp only at hs hgo |-
 have hl1:X1.length=X.length:=hs.len
 have hm:=mul_words hq (h.wy i) ⟨hs.c0,hs.c1⟩
 have hw:=hs.wd (lo+i)
 have hb0:=hs.b0
 have hb1:=hs.b1
 have hc0:=hs.c0
 have hc1:=hs.c1
 unfold num_quoWords.l4
 rw [hky,Int.add_comm (i:Int) (lo:Int),gi_add,gi_nat,show ((lo:Int)+(i:Int)).toNat=lo+i by omega,ishr64_32,show (q*gn y i % 18446744073709551616+ca) % 18446744073709551616=ca+q*gn y i by omega]
 refine W.run_if (fun c=>?_) (fun c=>hbrk _ ?_)
 ·have hst:=hs.step' h.wy hq (by omega) rfl rfl
  refine W.req_i (by omega) (W.req_i (by show _/\_;omega) (W.req_i (by omega) (W.req_i (by show _/\_;omega) (W.req_i (by show _/\_;omega) (W.req_i (by show _/\_;omega) (W.req_i (by omega) (W.run_if (fun c2=>?_) (fun c2=>?_))))))))
  ·rw [if_pos c2] at hst
   exact hgo _ ⟨i+1,by simp,by omega,hst⟩ (by simp;omega)
  ·rw [if_neg c2] at hst
   exact hgo _ ⟨i+1,by simp,by omega,hst⟩ (by simp;omega)
 obtain rfl:i=k:=by omega
 unfold num_quoWords.j8
 simp only
 have hy0:gn y i=0:=gn_ge (by omega)
 have hst:=hs.step' h.wy hq (by omega) (p:=ca) (by rw [hy0];simp) rfl
 rw [show ca / 4294967296=0 by omega,show ca % 4294967296=ca by omega] at hst
 rw [hky,gi_add,show ((lo:Int)+(i:Int)).toNat=lo+i by omega,wrap_i64 (by omega) (by omega)]
 refine W.req_i (by show _/\_;omega) (W.req_i (by omega) (W.req_i (by show _/\_;omega) (W.req_i (by show _/\_;omega) (W.req_i (by show _/\_;omega) (W.req_i (by omega) (W.run_if (fun c2=>?_) (fun c2=>?_)))))))
 ·rw [if_pos c2] at hst
  generalize hX2:X1.set (lo+i) ((gn X1 (lo+i) - bo - ca) % 4294967296)=X2 at *
  refine W.loop_c (fun s:List Int×Int×Int=>∃ j:Nat,s.2.2=j/\j<=i/\AddW X2 s.1 y lo j s.2.1) (fun s=>i - s.2.2.toNat) ⟨0,rfl,Nat.zero_le _,AddW.init hst.wd⟩ ?_
  rintro ⟨X3,cr,_⟩ P2 ⟨j,rfl,hj,ha⟩ hgo2 hbrk2 hout2
  simp only at ha hgo2 |-
  have hl2:X3.length=X2.length:=ha.len
  have hl3:X2.length=X.length:=hst.len
  have hw:=ha.wd (lo+j)
  have hy:=h.wy j
  have hc0:=ha.c0
  have hc1:=ha.c1
  unfold num_quoWords.l3
  rw [hky,Int.add_comm (j:Int) (lo:Int),gi_add,gi_nat,show ((lo:Int)+(j:Int)).toNat=lo+j by omega,ishr64_32,show (gn X3 (lo+j)+gn y j+cr) % 18446744073709551616=cr+gn X3 (lo+j)+gn y j by omega]
  refine W.run_if (fun c3=>?_) (fun c3=>hbrk2 _ ?_)
  ·exact W.req_i (by show _/\_;omega) (W.req_i (by omega) (W.req_i (by omega) (W.req_i (by show _/\_;omega) (W.req_i (by omega) (hgo2 _ ⟨j+1,by simp,by omega,ha.step h.wy (by omega) rfl⟩ (by simp;omega))))))
  obtain rfl:j=i:=by omega
  unfold num_quoWords.j10
  simp only
  have hfin:=SubM.fin2 h hst (ha.step h.wy (by omega) (p:=cr+gn X3 (lo+j)) (by rw [hy0];simp)) hq hle
  have hq1:=hfin.q0
  rw [hky,gi_add,show ((lo:Int)+(j:Int)).toNat=lo+j by omega,show (q - 1) % 18446744073709551616=q - 1 by omega,show (gn X3 (lo+j)+cr % 4294967296) % 4294967296=(cr+gn X3 (lo+j)) % 4294967296 by omega]
  exact W.req_i (by show _/\_;omega) (W.req_i (by omega) (W.req_i (by omega) (fin _ _ hfin)))
 ·rw [if_neg c2] at hst
  exact fin _ _ (SubM.fin h hst hq hge)
theorem num_word_run (h:Win X y lo k) (hl:X.length<=1099511627776) (hlo:lo<out.length) (H:∀ q X',Wout X X' y lo k q->P (.go (X',out.set lo q,(lo:Int) - 1))):(num_quoWords.l2 y X out (lo:Int)).run P:=by
 obtain ⟨T,u2,v1,v2,E,V',U',qs,hT,hu2,hv1,hv2,hE,hV0,hV1,hVe,hU0,hU1,hUe,c1,c2,c3,c4,c5,c6,c7,c8,c9,d1,d2,d3,d4,d5⟩:=h.trial
 have hky:=h.ky
 have hkX:=h.kX
 have hk2:=h.k2
 have w1:=h.wX (lo+k)
 have w2:=h.wX (lo+(k - 1))
 unfold num_quoWords.l2
 rw [if_pos (by omega),hky,gi_add,gi_at (show (lo:Int)+(k:Int) - 1=((lo+(k - 1):Nat):Int) by omega),gi_at (show (k:Int) - 1=((k - 1:Nat):Int) by omega),ior64_32 w1.1 w1.2 w2.1 w2.2,<- hT,<- hv1]
 rw [Int.tdiv_eq_ediv_of_nonneg c7,Int.tmod_eq_emod_of_nonneg c7]
 have q0:0<=T / v1:=Int.ediv_nonneg c7 (by omega)
 have m0:=Int.emod_add_mul_ediv T v1
 have m1:=Int.emod_nonneg T (show v1≠0 by omega)
 have m2:=Int.emod_lt_of_pos T (show 0<v1 by omega)
 refine W.req_i (by show _/\_;omega) (W.req_i (by omega) (W.req_i (by show _/\_;omega) (W.req_i (by show _/\_;omega) (W.req_i (by omega) (W.req_i (by omega) (W.req_i (by omega) (W.req_i (by omega) (W.req_i (by omega) ?_))))))))
 have hqB:T / v1<=4294967297:=by
  have:T / v1<4294967298:=Int.ediv_lt_of_lt_mul (by omega) (by omega)
  omega
 refine W.loop_c (fun s:Int×Int=>qs<=s.1/\s.1<=4294967297/\0<=s.2/\s.2<4294967296/\s.1*v1+s.2=T) (fun s=>s.1.toNat) ⟨by omega,by simp only;omega,by simp only;omega,by simp only;omega,by simp only;rw [Int.mul_comm];omega⟩ ?_
 rintro ⟨q,r⟩ P1 ⟨g1,g2,g3,g4,g5⟩ hgo hbrk hout
 simp only at g1 g2 g3 g4 g5 hgo |-
 have hgood:∀ q r,qs<=q->q<=4294967295->q*v1+r=T->q*v2<=r*4294967296+u2->(num_quoWords.j7 y (lo:Int) X out q).run P:=fun q r g1 g2 g5 hok=>
  num_word_j7 h hl hlo ⟨by omega,by omega⟩ (by
   have:(qs+1)*wv y<=(q+1)*wv y:=Int.mul_le_mul_of_nonneg_right (by omega) (Int.le_of_lt h.Vpos.2)
   omega) (kn_ok (by decide) hE (by omega) c3 hV0 hV1 hVe hU0 hUe (by omega) (by omega) g5 hok) H
 have down:qs<q->(num_quoWords.j11 y r q).run P1:=by
  intro hqs
  unfold num_quoWords.j11
  rw [hky,gi_at (show (k:Int) - 1=((k - 1:Nat):Int) by omega),<- hv1,show (q - 1) % 18446744073709551616=q - 1 by omega,show (r+v1) % 18446744073709551616=r+v1 by omega]
  have g6:(q - 1)*v1+(r+v1)=T:=by rw [Int.sub_mul];omega
  refine W.req_i (by omega) (W.run_if (fun k1=>hbrk _ ?_) (fun k1=>hgo _ ⟨by omega,by omega,by omega,by omega,g6⟩ (by simp only;omega)))
  have hq:q - 1<=4294967295:=by
   rcases Int.lt_or_le (q - 1) 4294967296 with e | e
   ·omega
   ·have:4294967296*v1<=(q - 1)*v1:=Int.mul_le_mul_of_nonneg_right e (by omega)
    omega
  exact hgood _ _ (by omega) hq g6 (kn_rest (by decide) (by omega) c3 (by omega) (by omega) c5 (by omega))
 unfold num_quoWords.l5
 refine W.run_if (fun k1=>down (by omega)) (fun k1=>?_)
 have w3:=h.wX (lo+(k - 2))
 rw [hky,gi_at (show (lo:Int)+(k:Int) - 2=((lo+(k - 2):Nat):Int) by omega),gi_at (show (k:Int) - 2=((k - 2:Nat):Int) by omega),ior64_32 g3 g4 w3.1 w3.2,<- hu2,<- hv2]
 have hm:=mul_words (q:=q) (x:=v2) (c:=0) ⟨by omega,by omega⟩ ⟨c3,c4⟩ ⟨by decide,by decide⟩
 rw [show (q*v2) % 18446744073709551616=q*v2 by omega]
 refine W.req_i (by omega) (W.req_i (by show _/\_;omega) (W.req_i (by show _/\_;omega) (W.req_i (by omega) (W.run_if (fun k2=>down ?_) (fun k2=>hbrk _ (hgood q r g1 (by omega) g5 (by omega)))))))
 have hbig:=kn_big hE hV0 hVe hU1 hUe (by omega) g5 k2
 rcases Int.lt_or_le qs q with e | e
 ·exact e
 ·have:q*wv y<=qs*wv y:=Int.mul_le_mul_of_nonneg_right e (Int.le_of_lt h.Vpos.2)
  omega
end
end Go.Proofs.Ytgbmmbfminafnaa.E
