/- The program's integers: long division. -/
import Derived.Test.YtgbmmbfminafnaaKM14
set_option linter.unusedVariables false
set_option linter.unusedSimpArgs false
namespace Go.Proofs.Ytgbmmbfminafnaa.E
open Go Go.RowKit
section
variable {a b:List Int} {Q:List Int×List Int->Prop}
theorem num_quo_main (wa:Wd (gn a)) (wb:Wd (gn b)) (la:a.length<=1099511627775) (hab:wv b<=wv a) (hlab:b.length<=a.length) {n:Nat} (hn32:n<32) {X y:List Int} (wX:Wd (gn X)) (lX:X.length=a.length+1) (vX:wv X=wv a*2 ^ n) (wy:Wd (gn y)) (hyl:y.length=b.length) (hV:wv y=wv b*2 ^ n) (hk:2<=b.length) (htop:2147483648<=gn y (b.length - 1)) (H:NQuo a b Q):(num_quoWords.j3 a y (n:Int) X).run Q:=by
 have hp:=p2_pos n
 obtain ⟨m0,hm0⟩:∃ m,b.length=m+1:=⟨b.length - 1,by omega⟩
 rw [hm0] at hyl
 rw [hm0,Nat.add_sub_cancel] at htop
 have hE:=bpos m0
 have hVlo:4294967296 ^ m0*2147483648<=wv y:=by
  have h1:wv y=sv (gn y) 0 m0+4294967296 ^ m0*gn y m0:=by rw [wv,hyl,sv,Nat.zero_add]
  have h2:=sv_nonneg wy 0 m0
  have h3:4294967296 ^ m0*2147483648<=4294967296 ^ m0*gn y m0:=Int.mul_le_mul_of_nonneg_left htop (Int.le_of_lt hE)
  omega
 have hVp:0<wv y:=by omega
 obtain ⟨m,hm⟩:∃ m,a.length+1=m+(m0+1):=⟨a.length - m0,by omega⟩
 have hlXy:(a.length:Int) - (y.length:Int)+1=(m:Nat):=by omega
 unfold num_quoWords.j3
 rw [hlXy,Int.toNat_natCast,show (a.length:Int) - (y.length:Int)=(m:Int) - 1 by omega]
 refine W.req_i (by omega) ?_
 have hinit:Div (wv X) (wv y) X (List.replicate m 0) (m0+1) m m:=by
  refine ⟨by omega,by simp,wX,Wd.rep _,Nat.le_refl _,fun j hj=>gn_ge (by omega),?_,?_⟩
  ·have h1:wv X=sv (gn X) 0 a.length+4294967296 ^ a.length*gn X a.length:=by rw [wv,lX,sv,Nat.zero_add]
   have h2:=sv_nonneg wX 0 a.length
   have h3:wv X<4294967296 ^ a.length*2 ^ n:=by rw [vX];exact Int.mul_lt_mul_of_pos_right (wv_lt wa) hp
   have h4:gn X a.length<2 ^ n:=by
    apply Int.lt_of_mul_lt_mul_left (a:=4294967296 ^ a.length) _ (Int.le_of_lt (bpos _))
    omega
   have h5:=p2_le (show n<=31 by omega)
   have e31:(2:Int) ^ 31=2147483648:=by decide
   have h6:sv (gn X) m (m0+1)=sv (gn X) m m0+4294967296 ^ m0*gn X a.length:=by rw [sv,show m+m0=a.length by omega]
   have h7:=sv_lt wX m m0
   have h8:4294967296 ^ m0*(gn X a.length+1)<=4294967296 ^ m0*2147483648:=Int.mul_le_mul_of_nonneg_left (by omega) (Int.le_of_lt hE)
   rw [Int.mul_add] at h8
   omega
  ·rw [Nat.sub_self,show sv (gn (List.replicate m 0)) m 0=0 from rfl,Int.zero_mul,Int.add_zero,wv,lX,hm,sv_split,Nat.zero_add]
 refine W.loop_c (fun s:List Int×List Int×Int=>∃ i:Nat,s.2.2=(i:Int) - 1/\Div (wv X) (wv y) s.1 s.2.1 (m0+1) m i) (fun s=>(s.2.2+1).toNat) ⟨m,rfl,hinit⟩ ?_
 rintro ⟨X1,out,_⟩ P ⟨i,rfl,hd⟩ hgo hbrk hout
 simp only at hd hgo |-
 have hlX:=hd.lX
 have hlo:=hd.lo
 have him:=hd.im
 by_cases c:(i:Int) - 1>=0
 ·obtain ⟨j,rfl⟩:∃ j,i=j+1:=⟨i - 1,by omega⟩
  have e:((j+1:Nat):Int) - 1=(j:Int):=by omega
  rw [e] at hgo |-
  have hwin:Win X1 y j (m0+1):=by
   refine ⟨hd.wX,wy,by omega,hyl,by omega,by simpa using htop,?_⟩
   rw [sv_cons]
   have h1:=hd.lt
   have h2:=hd.wX j
   omega
  exact num_word_run hwin (by omega) (by omega) fun q X' hw=>hgo _ ⟨j,rfl,hd.step wy hyl hw⟩ (by simp only;omega)
 unfold num_quoWords.l2
 rw [if_neg c]
 refine hbrk _ ?_
 obtain rfl:i=0:=by omega
 have hval:=hd.val
 rw [show sv (gn X1) 0 0=0 from rfl,Int.pow_zero,Int.one_mul,Int.zero_add,Nat.sub_zero] at hval
 have hov:sv (gn out) 0 m=wv out:=wv_sv (by omega)
 have hR:sv (gn X1) 0 (m0+1)=2 ^ n*(wv a - wv out*wv b):=by
  rw [hov,vX,hV] at hval
  grind
 have hlt:=hd.lt
 rw [hR,hV] at hlt
 have hRlt:wv a - wv out*wv b<wv b:=by
  rw [Int.mul_comm] at hlt
  exact Int.lt_of_mul_lt_mul_right hlt (Int.le_of_lt hp)
 have hRge:0<=wv a - wv out*wv b:=by
  have h1:=sv_nonneg hd.wX 0 (m0+1)
  rw [hR] at h1
  rcases Int.lt_or_le (wv a - wv out*wv b) 0 with c | c
  ·have:=Int.mul_neg_of_pos_of_neg hp c
   omega
  ·exact c
 have hbpos:0<wv b:=by omega
 obtain ⟨u1,u2⟩:=divmod_unique hbpos (show wv a=wv out*wv b+(wv a - wv out*wv b) by omega) hRge hRlt
 exact num_quo_back (k:=m0+1) hd.wX hn32 (by omega) (by omega) (hd.high _ (by omega)) hR hyl (by omega) fun z z1 z2=>H _ _ hd.wo z1 u1 (z2.trans u2)
theorem num_quoWords_run (wa:Wd (gn a)) (wb:Wd (gn b)) (ta:Tr a) (tb:Tr b) (hb:b≠[]) (la:a.length<=1099511627775) (lb:b.length<=1099511627775) (H:NQuo a b Q):(num_quoWords.f a b).run Q:=by
 unfold num_quoWords.f
 refine W.bd (num_cmpWords_run wa wb ta tb fun r hr=>W.run_if (fun c=>W.req_i (by omega) ?_) (fun c=>W.run_if (fun c2=>W.req_i (by omega) (num_quo_one wa wb (by omega) tb (by omega) H)) (fun c2=>?_)))
 ·have hlt:wv a<wv b:=by rcases hr with ⟨_,h⟩ | ⟨h,_⟩ | ⟨h,_⟩ <;> omega
  have h0:=wv_nonneg wa
  refine H _ _ Wd.nil wa ?_ ?_
  ·rw [Int.ediv_eq_zero_of_lt h0 hlt];rfl
  ·rw [Int.emod_eq_of_lt h0 hlt]
 have hab:wv b<=wv a:=by rcases hr with ⟨_,h⟩ | ⟨_,h⟩ | ⟨_,h⟩ <;> omega
 have hlab:=tb.len_le wa wb hab
 have hb1:=List.length_pos_iff.2 hb
 have hlast:=tb hb
 have hbl:=wb (b.length - 1)
 unfold num_quoWords.j1
 rw [gi_at (show (b.length:Int) - 1=((b.length - 1:Nat):Int) by omega)]
 refine W.req_i (by omega) (W.bd (bits_LeadingZeros32_run (by omega) (by omega) fun n hn=>?_))
 obtain ⟨hn32,hn1,hn2⟩:=hn
 have hp:=p2_pos n
 have hn64:(n:Int) % 18446744073709551616=n:=by omega
 have hn32':(32 - (n:Int)) % 18446744073709551616=((32 - n:Nat):Int):=by omega
 rw [Int.toNat_natCast]
 refine W.req_i (by omega) (W.req_i (by omega) ?_)
 refine W.loop_c (fun s:List Int×Int=>∃ i:Nat,s.2=i/\i<=b.length/\s.1.length=b.length/\Shl b s.1 n i) (fun s=>b.length - s.2.toNat) ⟨0,rfl,Nat.zero_le _,by simp,⟨Wd.rep _,fun j _=>gn_rep _ _,by simp [sv]⟩⟩ ?_
 rintro ⟨v,_⟩ P ⟨i,rfl,hi,h1,h2⟩ hgo hbrk hout
 simp only at h1 h2 hgo |-
 unfold num_quoWords.l7
 rw [hn64,hn32',gi_nat,Int.toNat_natCast,shl32 (wb i) hn32]
 refine W.run_if (fun c3=>W.req_i (by omega) (W.req_i (by omega) (W.run_if (fun c4=>W.run_if (fun c5=>?_) (fun c5=>?_)) (fun c4=>?_)))) (fun c3=>hbrk _ ?_)
 ·have ho:=or_shifted (wb i) (wb (i - 1)) hn32
  rw [List.length_set,gi_nat,gn_set,if_pos ⟨rfl,by omega⟩,gi_at (show (i:Int) - 1=((i - 1:Nat):Int) by omega),shr32 hn32,ho.1]
  refine W.req_i (by omega) (W.req_i (by omega) (W.req_i (by omega) (hgo _ ⟨i+1,by simp,by omega,by simp [h1],h2.step wb hn32 (by omega) rfl fun j=>?_⟩ (by simp;omega))))
  rw [gn_set,gn_set,if_neg (by omega: ¬ i=0)]
  simp only [List.length_set]
  by_cases hj:i=j
  ·subst hj;rw [if_pos ⟨rfl,by omega⟩,if_pos rfl]
  ·rw [if_neg (by omega),if_neg (by omega),if_neg hj]
 ·have hn0:n=0:=by omega
  refine hgo _ ⟨i+1,by simp,by omega,by simp [h1],h2.step wb hn32 (by omega) rfl fun j=>?_⟩ (by simp;omega)
  rw [gn_set,if_neg (by omega: ¬ i=0)]
  have hb0:=wb (i - 1)
  by_cases hj:i=j
  ·subst hj hn0;rw [if_pos ⟨rfl,by omega⟩,if_pos rfl];simp;omega
  ·rw [if_neg (by omega),if_neg hj]
 ·refine hgo _ ⟨i+1,by simp,by omega,by simp [h1],h2.step wb hn32 (by omega) rfl fun j=>?_⟩ (by simp;omega)
  rw [gn_set,if_pos (by omega:i=0)]
  by_cases hj:i=j
  ·subst hj;rw [if_pos ⟨rfl,by omega⟩,if_pos rfl];simp
  ·rw [if_neg (by omega),if_neg hj]
 obtain rfl:i=b.length:=by omega
 have hVe:=h2.val
 rw [if_neg (by omega),Int.ediv_eq_zero_of_lt (by have:=hn1;omega) hn2,Int.mul_zero,Int.add_zero] at hVe
 have hV:wv v=wv b*2 ^ n:=by rw [wv,h1,hVe,wv,Int.mul_comm]
 have htop:2147483648<=gn v (b.length - 1):=by
  obtain ⟨m0,hm0⟩:∃ m,b.length=m+1:=⟨b.length - 1,by omega⟩
  rw [hm0,Nat.add_sub_cancel] at hn1 |-
  have e1:wv v=sv (gn v) 0 m0+4294967296 ^ m0*gn v m0:=by rw [wv,h1,hm0,sv,Nat.zero_add]
  have e2:=sv_lt h2.wd 0 m0
  have e3:wv b=sv (gn b) 0 m0+4294967296 ^ m0*gn b m0:=by rw [wv,hm0,sv,Nat.zero_add]
  have e4:=Int.mul_nonneg (sv_nonneg wb 0 m0) (Int.le_of_lt hp)
  have e5:4294967296 ^ m0*2147483648<=4294967296 ^ m0*(gn b m0*2 ^ n):=Int.mul_le_mul_of_nonneg_left hn1 (Int.le_of_lt (bpos _))
  rcases Int.lt_or_le (gn v m0) 2147483648 with c | c
  ·have:4294967296 ^ m0*(gn v m0+1)<=4294967296 ^ m0*2147483648:=Int.mul_le_mul_of_nonneg_left (by omega) (Int.le_of_lt (bpos _))
   rw [Int.mul_add] at this
   rw [e3,Int.add_mul,Int.mul_assoc] at hV
   omega
  ·exact c
 unfold num_quoWords.j2
 have hlr:((a.length:Int)+1).toNat=a.length+1:=by omega
 rw [hlr]
 refine W.loop_c (fun s:List Int×Int=>∃ i:Nat,s.2=i/\i<=a.length+1/\s.1.length=a.length+1/\Shl a s.1 n i) (fun s=>a.length+1 - s.2.toNat) ⟨0,rfl,Nat.zero_le _,by simp,⟨Wd.rep _,fun j _=>gn_rep _ _,by simp [sv]⟩⟩ ?_
 rintro ⟨X,_⟩ P2 ⟨i,rfl,hi,h3,h4⟩ hgo2 hbrk2 hout2
 simp only at h3 h4 hgo2 |-
 unfold num_quoWords.l6
 rw [hn64,hlr,List.length_replicate,gi_nat,Int.toNat_natCast,shl32 (wa i) hn32]
 have round:i<a.length+1->∀ X':List Int,X'.length=a.length+1->(∀ j,gn X' j=if i=j then (gn a i*2 ^ n) % 4294967296 else gn X j)->(num_quoWords.j12 (i:Int) (n:Int) a X').run P2:=by
  intro hlt X' hX' hg
  unfold num_quoWords.j12
  rw [hn64,hn32',gi_nat,hg,if_pos rfl,Int.toNat_natCast]
  refine W.run_if (fun c4=>W.run_if (fun c5=>?_) (fun c5=>?_)) (fun c4=>?_)
  ·have ho:=or_shifted (wa i) (wa (i - 1)) hn32
   rw [gi_at (show (i:Int) - 1=((i - 1:Nat):Int) by omega),shr32 hn32,ho.1]
   refine W.req_i (by omega) (W.req_i (by omega) (W.req_i (by omega) (hgo2 _ ⟨i+1,by simp,by omega,by simp [hX'],h4.step wa hn32 (by omega) rfl fun j=>?_⟩ (by simp;omega))))
   rw [gn_set,hg,if_neg (by omega: ¬ i=0)]
   by_cases hj:i=j
   ·subst hj;rw [if_pos ⟨rfl,by omega⟩,if_pos rfl]
   ·rw [if_neg (by omega),if_neg hj,if_neg hj]
  ·have hn0:n=0:=by omega
   refine hgo2 _ ⟨i+1,by simp,by omega,hX',h4.step wa hn32 (by omega) rfl fun j=>?_⟩ (by simp;omega)
   rw [hg,if_neg (by omega: ¬ i=0)]
   have hb0:=wa (i - 1)
   by_cases hj:i=j
   ·subst hj hn0;rw [if_pos rfl,if_pos rfl];simp;omega
   ·rw [if_neg hj,if_neg hj]
  ·refine hgo2 _ ⟨i+1,by simp,by omega,hX',h4.step wa hn32 (by omega) rfl fun j=>?_⟩ (by simp;omega)
   rw [hg,if_pos (by omega:i=0)]
   by_cases hj:i=j
   ·subst hj;rw [if_pos rfl,if_pos rfl];simp
   ·rw [if_neg hj,if_neg hj]
 refine W.run_if (fun c4=>W.run_if (fun c5=>W.req_i (by omega) (W.req_i (by omega) (round (by omega) _ (by simp [h3]) fun j=>?_))) (fun c5=>round (by omega) _ h3 fun j=>?_)) (fun c4=>hbrk2 _ ?_)
 ·rw [gn_set]
  by_cases hj:i=j
  ·subst hj;rw [if_pos ⟨rfl,by omega⟩,if_pos rfl]
  ·rw [if_neg (by omega),if_neg hj]
 ·by_cases hj:i=j
  ·subst hj;rw [if_pos rfl,h4.high i (Nat.le_refl _),gn_ge (l:=a) (by omega)];simp
  ·rw [if_neg hj]
 obtain rfl:i=a.length+1:=by omega
 have hXe:=h4.val
 rw [if_neg (by omega),Nat.add_sub_cancel,gn_ge (l:=a) (Nat.le_refl _)] at hXe
 simp at hXe
 have vX:wv X=wv a*2 ^ n:=by
  rw [wv,h3,hXe,sv,Nat.zero_add,gn_ge (l:=a) (Nat.le_refl _),Int.mul_zero,Int.add_zero,wv,Int.mul_comm]
 exact num_quo_main wa wb la hab hlab hn32 h4.wd h3 vX h2.wd h1 hV (by omega) htop H
end
end Go.Proofs.Ytgbmmbfminafnaa.E
