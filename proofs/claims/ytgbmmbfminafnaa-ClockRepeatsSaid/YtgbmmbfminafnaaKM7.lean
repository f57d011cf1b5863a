/- Joined. -/
import Derived.Test.YtgbmmbfminafnaaKM6
set_option linter.unusedVariables false
set_option linter.unusedSimpArgs false
namespace Go.Proofs.Ytgbmmbfminafnaa.E
open Go Go.RowKit
theorem Wd.two {x y:Int} (hx:0<=x/\x<4294967296) (hy:0<=y/\y<4294967296):Wd (gn [x,y]):=Wd.of (by
 intro z hz
 simp only [List.mem_cons,List.not_mem_nil,or_false] at hz
 rcases hz with rfl | rfl
 ·exact hx
 ·exact hy)
theorem divmod_unique {a b q r:Int} (hb:0<b) (h:a=q*b+r) (h0:0<=r) (h1:r<b):q=a / b/\r=a % b:=by
 have:=Int.emod_add_mul_ediv a b
 exact quo_unique hb h h0 h1 (q':=a / b) (r':=a % b) (by rw [Int.mul_comm (a / b)];omega) (Int.emod_nonneg a (by omega)) (Int.emod_lt_of_pos a hb)
section
variable {a b:List Int} {Q:List Int×List Int->Prop}
def Quo (a b:List Int) (Q:List Int×List Int->Prop):Prop:=∀ q r,Tr q->Tr r->Wd (gn q)->Wd (gn r)->wv q=wv a / wv b->wv r=wv a % wv b->Q (q,r)
theorem parts_one (wa:Wd (gn a)) (wb:Wd (gn b)) (hb:b.length=1) (tb:Tr b) (la:a.length<=1099511627776) (H:Quo a b Q) :
  (W.bind (W.loop (fun (s:(List Int)×Int×Int)=>ref01_parts.l3 a b s.1 s.2.1 s.2.2) ((List.replicate (a.length:Int).toNat (0:Int)),0,((a.length:Int) - 1))) (Lp.on (fun s=>ref01_parts.j5 s.1 s.2.1) (fun r=>W.ret r))).run Q:=by
 obtain ⟨d,rfl⟩:∃ d,b= [d]:=by
  match b,hb with
  | [d],_=>exact ⟨d,rfl⟩
 have hd:=wb 0
 have ed:gn [d] 0=d:=rfl
 rw [ed] at hd
 have hd0:d≠0:=tb (by simp)
 rw [Int.toNat_natCast]
 refine W.loop_c (fun s:List Int×Int×Int=>∃ i m:Nat,s.2.2=(i:Int) - 1/\i+m=a.length/\s.1.length=a.length/\Wd (gn s.1)/\0<=s.2.1/\s.2.1<d/\sv (gn a) i m=sv (gn s.1) i m*d+s.2.1) (fun s=>(s.2.2+1).toNat) ⟨a.length,0,rfl,rfl,by simp,Wd.rep _,by simp,by simp only;omega,by simp [sv]⟩ ?_
 rintro ⟨out,rest,_⟩ P ⟨i,m,rfl,him,h1,h2,h3,h4,h5⟩ hgo hbrk hout
 simp only at h1 h2 h3 h4 h5 hgo |-
 unfold ref01_parts.l3
 refine W.run_if (fun c=>?_) (fun c=>hbrk _ ?_)
 ·obtain ⟨j,rfl⟩:∃ j,i=j+1:=⟨i - 1,by omega⟩
  have e:((j+1:Nat):Int) - 1=(j:Int):=by omega
  rw [e,gi_nat,show gi [d] 0=d from rfl,Int.toNat_natCast]
  have ha:=wa j
  rw [ior64_32 h3 (by omega) ha.1 ha.2,Int.tdiv_eq_ediv_of_nonneg (by omega),Int.tmod_eq_emod_of_nonneg (by omega)]
  have e1:=Int.emod_add_mul_ediv (rest*4294967296+gn a j) d
  have e2:=Int.emod_nonneg (rest*4294967296+gn a j) hd0
  have e3:=Int.emod_lt_of_pos (rest*4294967296+gn a j) (show 0<d by omega)
  have e4:(rest*4294967296+gn a j) / d<4294967296:=Int.ediv_lt_of_lt_mul (by omega) (by omega)
  have e5:0<=(rest*4294967296+gn a j) / d:=Int.ediv_nonneg (by omega) (by omega)
  rw [show (rest*4294967296+gn a j) / d % 4294967296=(rest*4294967296+gn a j) / d by omega]
  have hl:([d].length:Int)=1:=rfl
  refine W.req_i (by omega) (W.req_i (by omega) (W.req_i hd0 (W.req_i (by omega) (W.req_i (by omega) (W.req_i hd0 (hgo _ ⟨j,m+1,rfl,by omega,by simp [h1],h2.set ⟨e5,e4⟩,e2,e3,?_⟩ (by simp only;omega)))))))
  simp only
  rw [sv_cons,sv_cons,gn_set,if_pos ⟨rfl,by omega⟩,sv_congr (f:=gn (out.set j ((rest*4294967296+gn a j) / d))) (g:=gn out) (fun k hk _=>by rw [gn_set,if_neg (by omega)]),h5]
  grind
 ·obtain rfl:i=0:=by omega
  have hm:m=a.length:=by omega
  subst hm
  have hv:wv a=wv out*d+rest:=by
   show sv (gn a) 0 a.length=sv (gn out) 0 out.length*d+rest
   rw [h1];exact h5
  obtain ⟨u1,u2⟩:=divmod_unique (by omega) hv h3 h4
  unfold ref01_parts.j5
  simp only
  rw [show rest % 4294967296=rest by omega]
  refine ref01_trim_run h2 fun q t1 t2 t3 t4=>ref01_trim_run (Wd.one ⟨h3,by omega⟩) fun r s1 s2 s3 s4=>H q r t1 s1 t2 s2 ?_ ?_
  ·rw [t3,wv_sing];exact u1
  ·rw [s3,wv_sing,wv_sing];exact u2
theorem parts_back {x:List Int} {n:Nat} {R:Int} (wx:Wd (gn x)) (hn:n<32) (hl:x.length<=1099511627776) (hv:wv x=2 ^ n*R) {Q:List Int->Prop} (H:∀ z,Wd (gn z)->wv z=R->Q z) {S:List Int×Int->W (List Int×List Int)} {O:List Int×List Int->W (List Int×List Int)} {Q':List Int×List Int->Prop} (hS:∀ z i,Q z->(S (z,i)).run Q') :
  (W.bind (W.loop (fun (s:(List Int)×Int)=>ref01_parts.l1 (n:Int) s.1 s.2) (x,0)) (Lp.on S O)).run Q':=by
 have hp:=p2_pos n
 have hp3:=p2_pos (32 - n)
 have hs:=p2_split (show n<=32 by omega)
 have h31:=p2_le (show n<=31 by omega)
 have e31:(2:Int) ^ 31=2147483648:=by decide
 rw [e31] at h31
 have hn64:(n:Int) % 18446744073709551616=n:=by omega
 have hn32:(32 - (n:Int)) % 18446744073709551616=((32 - n:Nat):Int):=by omega
 refine W.loop_c (fun s:List Int×Int=>∃ i:Nat,s.2=i/\i<=x.length/\s.1.length=x.length/\Wd (gn s.1)/\(∀ j,i<=j->gn s.1 j=gn x j)/\2 ^ n*sv (gn s.1) 0 i=sv (gn x) 0 i - gn x 0 % 2 ^ n+4294967296 ^ i*(gn x i % 2 ^ n)) (fun s=>x.length - s.2.toNat) ⟨0,rfl,Nat.zero_le _,rfl,wx,fun _ _=>rfl,by simp [sv];omega⟩ ?_
 rintro ⟨z,_⟩ P ⟨i,rfl,hi,h1,h2,h3,h4⟩ hgo hbrk hout
 simp only at h1 h2 h3 h4 hgo |-
 unfold ref01_parts.l1
 rw [hn64,hn32,gi_nat,Int.toNat_natCast]
 have hx:=wx i
 have hx1:=wx (i+1)
 have hsr:ishr .u32 (gn z i) n=gn x i / 2 ^ n:=by rw [h3 i (Nat.le_refl _),ishr_n _ _ _ (by show n<=32;omega)]
 rw [hsr]
 have q0:0<=gn x i / 2 ^ n:=Int.ediv_nonneg hx.1 (Int.le_of_lt hp)
 have q1:gn x i / 2 ^ n<2 ^ (32 - n):=Int.ediv_lt_of_lt_mul hp (by rw [Int.mul_comm,<- hs];exact hx.2)
 have hp3':(2:Int) ^ (32 - n)<=4294967296:=by
  have:=p2_le (show 32 - n<=32 by omega)
  have e:(2:Int) ^ 32=4294967296:=by decide
  omega
 have next:i<x.length->∀ v,v=gn x i / 2 ^ n+(gn x (i+1) % 2 ^ n)*2 ^ (32 - n)->∀ z',z'.length=x.length->Wd (gn z')->(∀ j,j≠i->gn z' j=gn z j)->gn z' i=v->P (.go (z',(i:Int)+1)):=by
  intro hlt v hv z' a1 a2 a3 a4
  refine hgo _ ⟨i+1,by simp,by omega,a1,a2,fun j hj=>by rw [a3 j (by omega)];exact h3 j (by omega),?_⟩ (by simp;omega)
  simp only
  rw [sv,Nat.zero_add,sv_congr (g:=gn z) (fun j _ hj=>a3 j (by omega)),a4,hv,sv,Nat.zero_add,bsucc]
  have e1:=Int.emod_add_mul_ediv (gn x i) (2 ^ n)
  have e2:(4294967296:Int)*(gn x (i+1) % 2 ^ n)=2 ^ n*((gn x (i+1) % 2 ^ n)*2 ^ (32 - n)):=by rw [hs];grind
  have e3:4294967296*4294967296 ^ i*(gn x (i+1) % 2 ^ n)=4294967296 ^ i*(2 ^ n*((gn x (i+1) % 2 ^ n)*2 ^ (32 - n))):=by rw [<- e2];grind
  rw [e3]
  generalize (4294967296:Int) ^ i=E at *
  generalize (2:Int) ^ n=p at *
  generalize (gn x (i+1) % p)*2 ^ (32 - n)=w at *
  generalize gn x i / p=d at *
  generalize gn x i % p=mm at *
  grind
 refine W.run_if (fun c=>W.req_i (by omega) (W.req_i (by omega) (W.run_if (fun c2=>?_) (fun c2=>?_)))) (fun c=>hbrk _ ?_)
 ·rw [List.length_set] at c2
  rw [gi_nat,gn_set,if_pos ⟨rfl,by omega⟩,gi_at (show (i:Int)+1=((i+1:Nat):Int) by omega),gn_set,if_neg (by omega),h3 (i+1) (by omega)]
  have e1:=shl_parts hx1 (n:=32 - n)
  have e2:ishl .u64 (gn x (i+1)) ((32 - n:Nat):Int) % 4294967296=(gn x (i+1) % 2 ^ n)*2 ^ (32 - n):=by
   have s1:gn x (i+1)*2 ^ (32 - n)<18446744073709551616:=by
    have:gn x (i+1)*2 ^ (32 - n)<=4294967295*4294967296:=Int.mul_le_mul (by omega) hp3' (Int.le_of_lt hp3) (by decide)
    omega
   have s0:0<=gn x (i+1)*2 ^ (32 - n):=Int.mul_nonneg hx1.1 (Int.le_of_lt hp3)
   rw [ishl_n _ _ _ (by show 32 - n<=64;omega),wrap_u64,Int.emod_eq_of_lt s0 s1]
   have hs':(4294967296:Int)=2 ^ (32 - n)*2 ^ n:=by rw [hs,Int.mul_comm]
   rw [hs',Int.mul_comm (gn x (i+1)),Int.mul_emod_mul_of_pos _ _ hp3,Int.mul_comm]
  rw [e2]
  have m0:=Int.emod_nonneg (gn x (i+1)) (show (2:Int) ^ n≠0 by omega)
  have m1:=Int.emod_lt_of_pos (gn x (i+1)) hp
  have m2:(gn x (i+1) % 2 ^ n+1)*2 ^ (32 - n)<=2 ^ n*2 ^ (32 - n):=Int.mul_le_mul_of_nonneg_right (by omega) (Int.le_of_lt hp3)
  rw [Int.add_mul,Int.one_mul,<- hs] at m2
  have m3:0<=(gn x (i+1) % 2 ^ n)*2 ^ (32 - n):=Int.mul_nonneg m0 (Int.le_of_lt hp3)
  rw [ior_comm,ior_sum32 m0 q0 q1 (by omega)]
  refine W.req_i (by rw [List.length_set];omega) (W.req_i (by rw [List.length_set];omega) (W.req_i (by rw [List.length_set];omega) ?_))
  refine next (by omega) _ rfl _ (by simp [h1]) ((h2.set (by omega)).set (by omega)) (fun j hj=>by rw [gn_set,if_neg (by omega),gn_set,if_neg (by omega)]) ?_
  rw [gn_set,if_pos ⟨rfl,by rw [List.length_set];omega⟩,Int.add_comm]
 ·rw [List.length_set] at c2
  refine next (by omega) _ rfl _ (by simp [h1]) (h2.set (by omega)) (fun j hj=>by rw [gn_set,if_neg (by omega)]) ?_
  rw [gn_set,if_pos ⟨rfl,by omega⟩,gn_ge (l:=x) (show x.length<=i+1 by omega)]
  simp
 ·obtain rfl:i=x.length:=by omega
  refine hS _ _ (H z h2 ?_)
  rw [gn_ge (l:=x) (Nat.le_refl _)] at h4
  have hx0:gn x 0 % 2 ^ n=0:=by
   have e:wv x % 2 ^ n=gn x 0 % 2 ^ n:=by
    rcases Nat.eq_zero_or_pos x.length with h0 | h0
    ·rw [wv,h0,gn_ge (by omega)];rfl
    ·obtain ⟨m,hm⟩:∃ m,x.length=m+1:=⟨x.length - 1,by omega⟩
     rw [wv,hm,sv_cons,hs,Int.mul_assoc,Int.add_mul_emod_self_left]
   rw [<- e,hv,Int.mul_emod_right]
  rw [hx0] at h4
  have h5:2 ^ n*wv z=2 ^ n*R:=by
   rw [<- hv,wv,h1,h4]
   simp [wv]
  exact Int.eq_of_mul_eq_mul_left (by omega) h5
end
structure Div (A V:Int) (X out:List Int) (k m i:Nat):Prop where
 lX:X.length=m+k
 lo:out.length=m
 wX:Wd (gn X)
 wo:Wd (gn out)
 im:i<=m
 high:∀ j,i+k<=j->gn X j=0
 lt:sv (gn X) i k<V
 val:A=sv (gn X) 0 i+4294967296 ^ i*(sv (gn X) i k+sv (gn out) i (m - i)*V)
theorem Div.step {A:Int} {y X X' out:List Int} {k m i:Nat} {q:Int} (h:Div A (wv y) X out k m (i+1)) (wy:Wd (gn y)) (ky:y.length=k) (w:Wout X X' y i k q):Div A (wv y) X' (out.set i q) k m i:=by
 have him:=h.im
 have hVk:wv y<4294967296 ^ k:=by have:=wv_lt wy;rwa [ky] at this
 have hzero:gn X' (i+k)=0:=by
  have h1:=w.lt
  rw [sv] at h1
  have h2:=sv_nonneg w.wd i k
  have h3:=w.wd (i+k)
  rcases Int.lt_or_le 0 (gn X' (i+k)) with c | c
  ·have:4294967296 ^ k*1<=4294967296 ^ k*gn X' (i+k):=Int.mul_le_mul_of_nonneg_left (by omega) (Int.le_of_lt (bpos k))
   omega
  ·omega
 have hsv:sv (gn X') i (k+1)=sv (gn X') i k:=by rw [sv,hzero,Int.mul_zero,Int.add_zero]
 refine ⟨by rw [w.len];exact h.lX,by rw [List.length_set];exact h.lo,w.wd,h.wo.set ⟨w.q0,w.q1⟩,by omega,fun j hj=>?_,by rw [<- hsv];exact w.lt,?_⟩
 ·rcases Nat.eq_or_lt_of_le hj with e | e
  ·rw [<- e];exact hzero
  ·rw [w.high j (by omega)];exact h.high j (by omega)
 ·have hval:=h.val
  have hw:=w.val
  rw [hsv,sv_cons] at hw
  rw [sv,Nat.zero_add,bsucc] at hval
  obtain ⟨d,hd⟩:∃ d,m - i=d+1:=⟨m - i - 1,by omega⟩
  have hd':m - (i+1)=d:=by omega
  rw [hd'] at hval
  rw [hd,sv_cons,gn_set,if_pos ⟨rfl,by rw [h.lo];omega⟩,sv_congr (f:=gn (out.set i q)) (g:=gn out) (fun j hj _=>by rw [gn_set,if_neg (by omega)]),sv_congr (f:=gn X') (g:=gn X) (j:=0) (fun j _ hj=>w.low j (by omega)),hval]
  generalize (4294967296:Int) ^ i=E at *
  grind
section
variable {a b:List Int} {Q:List Int×List Int->Prop}
theorem ref01_parts_run (wa:Wd (gn a)) (wb:Wd (gn b)) (ta:Tr a) (tb:Tr b) (hb:b≠[]) (la:a.length<=1099511627775) (lb:b.length<=1099511627775) (H:Quo a b Q):(ref01_parts.f a b).run Q:=by
 unfold ref01_parts.f
 refine ref01_order_run wa wb ta tb fun r hr=>W.run_if (fun c=>?_) (fun c=>W.run_if (fun c2=>W.req_i (by omega) (parts_one wa wb (by omega) tb (by omega) H)) (fun c2=>?_))
 ·have hlt:wv a<wv b:=by rcases hr with ⟨_,h⟩ | ⟨h,_⟩ | ⟨h,_⟩ <;> omega
  have h0:=wv_nonneg wa
  refine H _ _ Tr.nil ta Wd.nil wa ?_ ?_
  ·rw [Int.ediv_eq_zero_of_lt h0 hlt];rfl
  ·rw [Int.emod_eq_of_lt h0 hlt]
 have hab:wv b<=wv a:=by rcases hr with ⟨_,h⟩ | ⟨_,h⟩ | ⟨_,h⟩ <;> omega
 have hlab:=tb.len_le wa wb hab
 have hb1:=List.length_pos_iff.2 hb
 have hlast:=tb hb
 have hbl:=wb (b.length - 1)
 unfold ref01_parts.j1
 rw [gi_at (show (b.length:Int) - 1=((b.length - 1:Nat):Int) by omega)]
 refine W.req_i (by omega) (bits_LeadingZeros32_run (by omega) (by omega) fun n hn=>?_)
 obtain ⟨hn32,hn1,hn2⟩:=hn
 have hp:=p2_pos n
 dsimp only
 rw [show (n:Int) % 18446744073709551616=n by omega]
 refine ref01_shifted_run wa hn32 (by omega) fun X wX lX vX=>ref01_shifted_run wb hn32 (by omega) fun y0 wy0 ly0 vy0=>ref01_trim_run wy0 fun y ty wy vy _=>?_
 have hV:wv y=wv b*2 ^ n:=vy.trans vy0
 obtain ⟨m0,hm0⟩:∃ m,b.length=m+1:=⟨b.length - 1,by omega⟩
 have hbv:wv b=sv (gn b) 0 m0+4294967296 ^ m0*gn b m0:=by rw [wv,hm0,sv,Nat.zero_add]
 rw [hm0,Nat.add_sub_cancel] at hlast hbl hn1 hn2
 have b0:=sv_nonneg wb 0 m0
 have b1:=sv_lt wb 0 m0
 have hE:=bpos m0
 have hVlo:4294967296 ^ m0*2147483648<=wv y:=by
  have h1:4294967296 ^ m0*2147483648<=4294967296 ^ m0*(gn b m0*2 ^ n):=Int.mul_le_mul_of_nonneg_left hn1 (Int.le_of_lt hE)
  have h2:=Int.mul_nonneg b0 (Int.le_of_lt hp)
  rw [hV,hbv,Int.add_mul,Int.mul_assoc]
  omega
 have hVhi:wv y<4294967296 ^ (m0+1):=by
  have hs:=p2_split (show n<=32 by omega)
  have h1:(sv (gn b) 0 m0+1)*2 ^ n<=4294967296 ^ m0*2 ^ n:=Int.mul_le_mul_of_nonneg_right (by omega) (Int.le_of_lt hp)
  have h2:gn b m0*2 ^ n+2 ^ n<=4294967296:=by
   have e1:gn b m0*2 ^ n<2 ^ (32 - n)*2 ^ n:=by rw [Int.mul_comm (2 ^ (32 - n)),<- hs];exact hn2
   have e2:gn b m0<2 ^ (32 - n):=Int.lt_of_mul_lt_mul_right e1 (Int.le_of_lt hp)
   have e3:(gn b m0+1)*2 ^ n<=2 ^ (32 - n)*2 ^ n:=Int.mul_le_mul_of_nonneg_right (by omega) (Int.le_of_lt hp)
   rw [Int.add_mul,Int.one_mul,Int.mul_comm (2 ^ (32 - n)),<- hs] at e3
   exact e3
  have h3:4294967296 ^ m0*(gn b m0*2 ^ n+2 ^ n)<=4294967296 ^ m0*4294967296:=Int.mul_le_mul_of_nonneg_left h2 (Int.le_of_lt hE)
  rw [hV,hbv,bsucc,Int.add_mul,Int.mul_assoc]
  rw [Int.add_mul,Int.one_mul] at h1
  rw [Int.mul_add] at h3
  omega
 have hy0:y≠[]:=by
  rintro rfl
  rw [wv_nil] at hVlo
  omega
 have hyl:y.length=m0+1:=by
  have h1:=ty.ge wy hy0
  have h2:=wv_lt wy
  rcases Nat.lt_trichotomy y.length (m0+1) with c | c | c
  ·have:=bmono (i:=y.length) (j:=m0) (by omega)
   omega
  ·exact c
  ·have:=bmono (i:=m0+1) (j:=y.length - 1) (by omega)
   omega
 have htop:2147483648<=gn y m0:=by
  have h1:wv y=sv (gn y) 0 m0+4294967296 ^ m0*gn y m0:=by rw [wv,hyl,sv,Nat.zero_add]
  have h2:=sv_lt wy 0 m0
  rcases Int.lt_or_le (gn y m0) 2147483648 with c | c
  ·have:4294967296 ^ m0*(gn y m0+1)<=4294967296 ^ m0*2147483648:=Int.mul_le_mul_of_nonneg_left (by omega) (Int.le_of_lt hE)
   rw [Int.mul_add] at this
   omega
  ·exact c
 have hVp:0<wv y:=by omega
 obtain ⟨m,hm⟩:∃ m,a.length+1=m+(m0+1):=⟨a.length - m0,by omega⟩
 have hlXy:(X.length:Int) - (y.length:Int)=(m:Nat):=by omega
 dsimp only
 rw [hlXy,Int.toNat_natCast,List.length_replicate]
 refine W.req_i (by omega) (W.req_i (by omega) (W.req_i (by omega) ?_))
 have hinit:Div (wv X) (wv y) X (List.replicate m 0) (m0+1) m m:=by
  refine ⟨by omega,by simp,wX,Wd.rep _,Nat.le_refl _,fun j hj=>gn_ge (by omega),?_,?_⟩
  ·-- the first word is less than 2^n
   have h1:wv X=sv (gn X) 0 a.length+4294967296 ^ a.length*gn X a.length:=by rw [wv,lX,sv,Nat.zero_add]
   have h2:=sv_nonneg wX 0 a.length
   have h3:wv X<4294967296 ^ a.length*2 ^ n:=by rw [vX];exact Int.mul_lt_mul_of_pos_right (wv_lt wa) hp
   have h4:gn X a.length<2 ^ n:=by
    apply Int.lt_of_mul_lt_mul_left (a:=4294967296 ^ a.length) _ (Int.le_of_lt (bpos _))
    omega
   have h5:=p2_le (show n<=31 by omega)
   have e31:(2:Int) ^ 31=2147483648:=by decide
   have h6:sv (gn X) m (m0+1)=sv (gn X) m m0+4294967296 ^ m0*gn X a.length:=by rw [sv,show m+m0=a.length by omega]
   have h7:=sv_lt wX m m0
   have h8:4294967296 ^ m0*(gn X a.length+1)<=4294967296 ^ m0*2147483648:=Int.mul_le_mul_of_nonneg_left (by omega) (Int.le_of_lt hE)
   rw [Int.mul_add] at h8
   omega
  ·rw [Nat.sub_self,show sv (gn (List.replicate m 0)) m 0=0 from rfl,Int.zero_mul,Int.add_zero,wv,lX,hm,sv_split,Nat.zero_add]
 refine W.loop_c (fun s:List Int×List Int×Int=>∃ i:Nat,s.2.2=(i:Int) - 1/\Div (wv X) (wv y) s.1 s.2.1 (m0+1) m i) (fun s=>(s.2.2+1).toNat) ⟨m,rfl,hinit⟩ ?_
 rintro ⟨X1,out,_⟩ P ⟨i,rfl,hd⟩ hgo hbrk hout
 simp only at hd hgo |-
 have hlX:=hd.lX
 have hlo:=hd.lo
 have him:=hd.im
 unfold ref01_parts.l2
 refine W.run_if (fun c=>?_) (fun c=>hbrk _ ?_)
 ·obtain ⟨j,rfl⟩:∃ j,i=j+1:=⟨i - 1,by omega⟩
  have e:((j+1:Nat):Int) - 1=(j:Int):=by omega
  rw [e,hyl,show (((j:Int)+((m0+1:Nat):Int)+1) - (j:Int)).toNat=m0+1+1 by omega,Int.toNat_natCast]
  have hwin:Win X1 y j (m0+1):=by
   refine ⟨hd.wX,wy,by omega,hyl,by omega,by simpa using htop,?_⟩
   rw [sv_cons]
   have h1:=hd.lt
   have h2:=hd.wX j
   omega
  refine W.req_i (by show _/\_;omega) (W.req_i (by show _/\_;omega) (W.req_i (by omega) (ref01_word_run hwin (by omega) ?_ ?_ fun q X' hw=>?_)))
  ·rw [gi_at (show ((m0+1:Nat):Int) - 1=((m0+1 - 1:Nat):Int) by omega)]
  ·rw [gi_at (show ((m0+1:Nat):Int) - 2=((m0+1 - 2:Nat):Int) by omega)]
  ·exact W.req_i (by omega) (hgo _ ⟨j,rfl,hd.step wy hyl hw⟩ (by simp only;omega))
 obtain rfl:i=0:=by omega
 have hval:=hd.val
 rw [show sv (gn X1) 0 0=0 from rfl,Int.pow_zero,Int.one_mul,Int.zero_add,Nat.sub_zero] at hval
 have hXv:wv X1=sv (gn X1) 0 (m0+1):=by
  rw [wv,hlX,Nat.add_comm m (m0+1),sv_split,sv_zero (j:=0+(m0+1)) (fun k hk _=>hd.high k (by omega))]
  simp
 have hov:sv (gn out) 0 m=wv out:=wv_sv (by omega)
 have hR:wv X1=2 ^ n*(wv a - wv out*wv b):=by
  rw [hXv]
  rw [hov,vX,hV] at hval
  grind
 have hlt:=hd.lt
 rw [<- hXv,hR,hV] at hlt
 have hRlt:wv a - wv out*wv b<wv b:=by
  rw [Int.mul_comm] at hlt
  exact Int.lt_of_mul_lt_mul_right hlt (Int.le_of_lt hp)
 have hRge:0<=wv a - wv out*wv b:=by
  have h1:=wv_nonneg hd.wX
  rw [hR] at h1
  rcases Int.lt_or_le (wv a - wv out*wv b) 0 with c | c
  ·have:=Int.mul_neg_of_pos_of_neg hp c
   omega
  ·exact c
 have hbpos:0<wv b:=by omega
 obtain ⟨u1,u2⟩:=divmod_unique hbpos (show wv a=wv out*wv b+(wv a - wv out*wv b) by omega) hRge hRlt
 unfold ref01_parts.j2
 refine ref01_trim_o_run hd.wX fun x tx wx vx lx=>?_
 refine parts_back wx hn32 (by have:x.length<=X1.length:=lx;omega) (vx.trans hR) (Q:=fun z=>Wd (gn z)/\wv z=wv a - wv out*wv b) (fun z h1 h2=>⟨h1,h2⟩) fun z i hz=>?_
 unfold ref01_parts.j3
 exact ref01_trim_run hd.wo fun q t1 t2 t3 t4=>ref01_trim_run hz.1 fun r s1 s2 s3 s4=>H q r t1 s1 t2 s2 (t3.trans u1) (s3.trans (hz.2.trans u2))
end
end Go.Proofs.Ytgbmmbfminafnaa.E
namespace Go.Proofs.Ytgbmmbfminafnaa.E
open Go Go.RowKit
structure WRep (z:ref01_whole) (n:Int):Prop where
 wd:Wd (gn z.d)
 tr:Tr z.d
 val:n=if z.minus=true then - wv z.d else wv z.d
 pos:z.minus=true->z.d≠[]
theorem WRep.abs {z:ref01_whole} {n:Int} (h:WRep z n):wv z.d=n.natAbs:=by
 have h0:=wv_nonneg h.wd
 rw [h.val]
 split <;> omega
theorem WRep.neg_iff {z:ref01_whole} {n:Int} (h:WRep z n):z.minus=true ↔ n<0:=by
 have h0:=wv_nonneg h.wd
 constructor
 ·intro hm
  have h1: ¬ wv z.d=0:=fun e=>h.pos hm ((h.tr.zero h.wd).1 e)
  rw [h.val,if_pos hm]
  omega
 ·intro hn
  rcases Bool.eq_false_or_eq_true z.minus with e | e
  ·exact e
  ·rw [h.val,e,if_neg (by simp)] at hn
   omega
theorem WRep.nil_iff {z:ref01_whole} {n:Int} (h:WRep z n):z.d= [] ↔ n=0:=by
 rw [<- h.tr.zero h.wd,h.abs]
 omega
theorem WRep.len0 {z:ref01_whole} {n:Int} (h:WRep z n):(z.d.length:Int)=0 ↔ n=0:=by
 rw [<- h.nil_iff]
 constructor
 ·intro e;exact List.eq_nil_of_length_eq_zero (by omega)
 ·intro e;rw [e];rfl
theorem b_p2 (i:Nat):(4294967296:Int) ^ i=2 ^ (32*i):=by
 rw [Int.pow_mul]
 rfl
theorem Tr.bits {l:List Int} (ht:Tr l) (h:Wd (gn l)) {n:Nat} (hn:wv l=n) {s:Nat} (hs:n<2 ^ s):l.length<=s / 32+1:=by
 by_cases h0:l= []
 ·rw [h0];exact Nat.zero_le _
 ·have h1:=ht.ge h h0
  rw [hn,b_p2] at h1
  have h2:2 ^ (32*(l.length - 1))<=n:=by
   have:((2 ^ (32*(l.length - 1)):Nat):Int)<=(n:Int):=by simpa using h1
   exact Int.ofNat_le.1 this
  have h3:32*(l.length - 1)<s:=(Nat.pow_lt_pow_iff_right (by decide)).1 (Nat.lt_of_le_of_lt h2 hs)
  omega
theorem WRep.len {z:ref01_whole} {n:Int} (h:WRep z n) {s:Nat} (hs:n.natAbs<2 ^ s):z.d.length<=s / 32+1:=h.tr.bits h.wd h.abs hs
theorem bits_mul {a b:Int} {s t:Nat} (ha:a.natAbs<2 ^ s) (hb:b.natAbs<2 ^ t):(a*b).natAbs<2 ^ (s+t):=by
 rw [Int.natAbs_mul,Nat.pow_add]
 exact Nat.mul_lt_mul'' ha hb
theorem bits_add {a b:Int} {s:Nat} (ha:a.natAbs<2 ^ s) (hb:b.natAbs<2 ^ s):(a+b).natAbs<2 ^ (s+1):=by
 have:=Int.natAbs_add_le a b
 rw [Nat.pow_succ]
 omega
theorem bits_mono {n s t:Nat} (h:n<2 ^ s) (hst:s<=t):n<2 ^ t:=Nat.lt_of_lt_of_le h (Nat.pow_le_pow_right (by decide) hst)
section
variable {a b:ref01_whole} {x y:Int} {Q:ref01_whole->Prop}
theorem ref01_signed_run {d:List Int} {m:Bool} (hd:Wd (gn d)) (ht:Tr d) (H:∀ z,WRep z (if m=true then - wv d else wv d)->z.d=d->Q z):(ref01_signed.f d m).run Q:=by
 unfold ref01_signed.f
 refine W.run_if (fun c=>H _ ⟨hd,ht,?_,fun e=>?_⟩ rfl) (fun c=>H _ ⟨hd,ht,?_,fun e=>by simp at e⟩ rfl)
 ·subst c
  by_cases h0:d= []
  ·subst h0;rfl
  ·have:=List.length_pos_iff.2 h0
   rw [if_pos rfl,if_pos (by simp;omega)]
 ·simp at e
  exact List.length_pos_iff.1 (by omega)
 ·rw [if_neg c,if_neg (by simp)]
theorem ref01_ofInt_run {n:Int} (hn:I64 n) (H:∀ z,WRep z n->Q z):(ref01_ofInt.f n).run Q:=by
 have hn:=i64_iff.1 hn
 have go:∀ u,u=(if n<0 then -n else n)->(ref01_ofInt.j1 n u).run Q:=by
  intro u hu
  have h0:0<=u/\u<18446744073709551616:=by split at hu <;> omega
  unfold ref01_ofInt.j1
  rw [ishr64_32]
  refine ref01_trim_run (Wd.two (by omega) (by omega)) fun r t1 t2 t3 t4=>H _ ⟨t2,t1,?_,fun e=>?_⟩
  ·simp only
   rw [t3,wv_two]
   by_cases hc:n<0
   ·rw [if_pos (by simpa using hc)]
    rw [if_pos hc] at hu
    omega
   ·rw [if_neg (by simpa using hc)]
    rw [if_neg hc] at hu
    omega
  ·have hc:n<0:=by simpa using e
   rw [if_pos hc] at hu
   intro hr
   have hr:r= []:=hr
   rw [hr,wv_nil,wv_two] at t3
   omega
 unfold ref01_ofInt.f
 refine W.run_if (fun c=>go _ ?_) (fun c=>go _ ?_)
 ·rw [if_pos c];omega
 ·rw [if_neg c];omega
theorem ref01_neg_run (h:WRep a x) (H:∀ z,WRep z (-x)->Q z):(ref01_whole_neg.f a).run Q:=by
 unfold ref01_whole_neg.f
 refine ref01_signed_run h.wd h.tr fun z hz _=>H z ?_
 have e:(if (!a.minus)=true then - wv a.d else wv a.d)= -x:=by
  rw [h.val]
  cases a.minus <;> simp
 rwa [e] at hz
theorem ref01_isNought_run {Q:Bool->Prop} (h:WRep a x) (H:Q (decide (x=0))):(ref01_whole_isNought.f a).run Q:=by
 unfold ref01_whole_isNought.f
 rw [W.ret_r,show decide ((a.d.length:Int)=0)=decide (x=0) from by rw [decide_eq_decide];exact h.len0]
 exact H
theorem ref01_isOne_run {Q:Bool->Prop} (h:WRep a x) (H:Q (decide (x=1))):(ref01_isOne.f a).run Q:=by
 unfold ref01_isOne.f
 have key:∀ b:Bool,(b=true ↔ x=1)->Q b:=fun b hb=>by
  have:b=decide (x=1):=by
   rw [Bool.eq_iff_iff,hb];simp
  rw [this];exact H
 have ha:=h.abs
 have hm:=h.neg_iff
 refine W.run_if (fun c=>W.req_i (by omega) ?_) (fun c=>key _ ?_)
 ·obtain ⟨d,hd⟩:∃ d,a.d= [d]:=by
   match hh:a.d,c with
   | [d],_=>exact ⟨d,rfl⟩
  rw [hd,wv_sing] at ha
  rw [hd,show gi [d] 0=d from rfl]
  refine W.run_if (fun c2=>key _ ?_) (fun c2=>key _ ?_)
  ·rw [Bool.not_eq_true',<- Bool.not_eq_true,hm]
   omega
  ·simp;omega
 ·simp
  rintro rfl
  have h1:a.d.length≠0:=fun e=>by
   have:=List.eq_nil_of_length_eq_zero e
   rw [this] at ha;simp [wv_nil] at ha
  have h2:=h.tr.ge h.wd (fun e=>h1 (by rw [e];rfl))
  have h3:=bmono (i:=1) (j:=a.d.length - 1) (by omega)
  rw [ha] at h2
  simp at h2 h3
  omega
theorem ref01_mul_run (ha:WRep a x) (hb:WRep b y) (la:a.d.length<=1099511627776) (lb:b.d.length<=1099511627776) (H:∀ z,WRep z (x*y)->Q z):(ref01_whole_mul.f a b).run Q:=by
 have va:=ha.val
 have vb:=hb.val
 unfold ref01_whole_mul.f
 refine ref01_times_run ha.wd hb.wd la lb fun r t1 t2 t3=>ref01_signed_run t2 t1 fun z hz _=>H z ?_
 have e:(if (!(a.minus == b.minus))=true then - wv r else wv r)=x*y:=by
  rw [va,vb,t3]
  cases a.minus <;> cases b.minus <;> simp [Int.mul_neg,Int.neg_mul]
 rwa [e] at hz
theorem ref01_divisor_run {c d:List Int} {Q:List Int->Prop} (wc:Wd (gn c)) (wd:Wd (gn d)) (tc:Tr c) (td:Tr d) (lc:c.length<=1099511627775) (ld:d.length<=1099511627775) {m n:Nat} (hc:wv c=m) (hd:wv d=n) (H:∀ r,Tr r->Wd (gn r)->wv r=(Nat.gcd m n:Nat)->Q r):(ref01_divisor.f c d).run Q:=by
 unfold ref01_divisor.f
 refine W.loop_c (fun s:List Int×List Int=>∃ p q:Nat,Wd (gn s.1)/\Wd (gn s.2)/\Tr s.1/\Tr s.2/\s.1.length<=1099511627775/\s.2.length<=1099511627775/\wv s.1=p/\wv s.2=q/\Nat.gcd p q=Nat.gcd m n) (fun s=>(wv s.2).toNat) ⟨m,n,wc,wd,tc,td,lc,ld,hc,hd,rfl⟩ ?_
 rintro ⟨u,v⟩ P ⟨p,q,wu,wv',tu,tv,lu,lv,hp,hq,hg⟩ hgo hbrk hout
 simp only at wu wv' tu tv lu lv hp hq hgo |-
 unfold ref01_divisor.l1
 refine W.run_if (fun k=>?_) (fun k=>hbrk _ (H u tu wu ?_))
 ·have hv0:v≠[]:=List.length_pos_iff.1 (by omega)
  have hq0:q≠0:=fun e=>hv0 ((tv.zero wv').1 (by rw [hq,e];rfl))
  refine ref01_parts_run wu wv' tu tv hv0 lu lv fun q' r t1 t2 w1 w2 e1 e2=>hgo _ ⟨q,p % q,wv',w2,tv,t2,lv,?_,hq,?_,?_⟩ ?_
  ·have hlt:wv r<=wv v:=by
    rw [e2,hp,hq]
    have:=Int.emod_lt_of_pos (p:Int) (show (0:Int)<q by omega)
    omega
   exact Nat.le_trans (t2.len_le wv' w2 hlt) lv
  ·show wv r=_
   rw [e2,hp,hq];rfl
  ·rw [<- hg,Nat.gcd_comm q,<- Nat.gcd_rec,Nat.gcd_comm]
  ·show (wv r).toNat<(wv v).toNat
   rw [e2,hp,hq]
   have:=Int.emod_lt_of_pos (p:Int) (show (0:Int)<q by omega)
   have:=Int.emod_nonneg (p:Int) (show (q:Int)≠0 by omega)
   omega
 ·have:v= []:=List.eq_nil_of_length_eq_zero (by omega)
  subst this
  have e:q=0:=by rw [wv_nil] at hq;omega
  subst e
  rw [Nat.gcd_zero_right] at hg
  rw [hp,hg]
end
end Go.Proofs.Ytgbmmbfminafnaa.E
namespace Go.Proofs.Ytgbmmbfminafnaa.E
open Go Go.RowKit
def Sz (s:Nat) (x:Rat):Prop:=x.num.natAbs<2 ^ s/\x.den<2 ^ s
def Ok (x:Rat):Prop:=∃ s:Nat,s<=8796093022208/\Sz s x
theorem Sz.mono {s t:Nat} {x:Rat} (h:Sz s x) (hst:s<=t):Sz t x:=⟨bits_mono h.1 hst,bits_mono h.2 hst⟩
theorem Sz.ok {s:Nat} {x:Rat} (h:Sz s x) (hs:s<=8796093022208):Ok x:=⟨s,hs,h⟩
theorem rat_over (n d:Int) (hd:d≠0):Rat.divInt n d=Rat.divInt (if d<0 then -n else n) (d.natAbs:Int):=by
 split
 ·rw [show (d.natAbs:Int)= -d by omega,Rat.neg_divInt_neg]
 ·rw [show (d.natAbs:Int)=d by omega]
theorem over_num (n:Int) (d:Nat) (hd:d≠0):(Rat.divInt n d).num=n / (Nat.gcd n.natAbs d:Nat):=by
 rw [Rat.num_divInt,Int.gcd]
 rw [Int.sign_eq_one_of_pos (by omega),Int.one_mul,Int.natAbs_natCast,Nat.gcd_comm]
theorem over_den (n:Int) (d:Nat) (hd:d≠0):(Rat.divInt n d).den=d / Nat.gcd n.natAbs d:=by
 rw [Rat.den_divInt,if_neg (by omega),Int.gcd,Int.natAbs_natCast,Nat.gcd_comm]
theorem Sz.over {n d:Int} {s:Nat} (hd:d≠0) (hn:n.natAbs<2 ^ s) (hd':d.natAbs<2 ^ s):Sz s (Rat.divInt n d):=by
 rw [rat_over n d hd]
 have h0:d.natAbs≠0:=by omega
 have hg:=Nat.gcd_pos_of_pos_right (if d<0 then -n else n).natAbs (Nat.pos_of_ne_zero h0)
 constructor
 ·rw [over_num _ _ h0]
  refine Nat.lt_of_le_of_lt ?_ hn
  rw [Int.natAbs_ediv_of_dvd (Int.ofNat_dvd_left.2 (Nat.gcd_dvd_left _ _)),Int.natAbs_natCast]
  refine Nat.le_trans (Nat.div_le_self _ _) ?_
  split <;> omega
 ·rw [over_den _ _ h0]
  exact Nat.lt_of_le_of_lt (Nat.div_le_self _ _) hd'
theorem add_over (x y:Rat):x+y=Rat.divInt (x.num*y.den+y.num*x.den) ((x.den:Int)*y.den):=by
 rw [Rat.add_def',<- Rat.divInt_ofNat]
 simp
theorem mul_over (x y:Rat):x*y=Rat.divInt (x.num*y.num) ((x.den:Int)*y.den):=by
 rw [Rat.mul_def',<- Rat.divInt_ofNat]
 simp
theorem div_over (x y:Rat):x / y=Rat.divInt (x.num*y.den) ((x.den:Int)*y.num):=by
 have h1:=Rat.num_divInt_den x
 have h2:=Rat.num_divInt_den y
 rw [Rat.div_def]
 conv=>lhs;rw [<- h1,<- h2,Rat.inv_divInt,Rat.divInt_mul_divInt]
theorem den_ne (x:Rat):(x.den:Int)≠0:=by have:=x.den_pos;omega
theorem Sz.add {x y:Rat} {s t:Nat} (hx:Sz s x) (hy:Sz t y):Sz (s+t+1) (x+y):=by
 rw [add_over]
 refine Sz.over (Int.mul_ne_zero (den_ne x) (den_ne y)) (bits_add (bits_mul hx.1 (by simpa using hy.2)) ?_) (bits_mono (bits_mul (by simpa using hx.2) (by simpa using hy.2)) (by omega))
 rw [Nat.add_comm s t]
 exact bits_mul hy.1 (by simpa using hx.2)
theorem Sz.neg {x:Rat} {s:Nat} (h:Sz s x):Sz s (-x):=by
 refine ⟨?_,by simpa using h.2⟩
 rw [Rat.neg_num,Int.natAbs_neg];exact h.1
theorem Sz.sub {x y:Rat} {s t:Nat} (hx:Sz s x) (hy:Sz t y):Sz (s+t+1) (x - y):=by
 rw [Rat.sub_eq_add_neg];exact hx.add hy.neg
theorem Sz.mul {x y:Rat} {s t:Nat} (hx:Sz s x) (hy:Sz t y):Sz (s+t) (x*y):=by
 rw [mul_over]
 exact Sz.over (Int.mul_ne_zero (den_ne x) (den_ne y)) (bits_mul hx.1 hy.1) (bits_mul (by simpa using hx.2) (by simpa using hy.2))
theorem Sz.div {x y:Rat} {s t:Nat} (hx:Sz s x) (hy:Sz t y) (h0:y≠0):Sz (s+t) (x / y):=by
 rw [div_over]
 exact Sz.over (Int.mul_ne_zero (den_ne x) (fun e=>h0 (Rat.num_eq_zero.1 e))) (bits_mul hx.1 (by simpa using hy.2)) (bits_mul (by simpa using hx.2) hy.1)
structure RRep (z:ref01_Q) (x:Rat):Prop where
 n:WRep z.n x.num
 d:WRep z.d x.den\/WRep z.d 0/\x.den=1
theorem WRep.zero:WRep ⟨[],false⟩ 0:=⟨Wd.nil,Tr.nil,rfl,fun h=>by simp at h⟩
theorem WRep.one:WRep ⟨[1],false⟩ 1:=⟨Wd.one (by decide),fun _=>by simp [gn],by simp [wv_sing],fun h=>by simp at h⟩
theorem RRep.zero:RRep ⟨⟨[],false⟩,⟨[],false⟩⟩ 0:=⟨WRep.zero,.inr ⟨WRep.zero,rfl⟩⟩
section
variable {a b:ref01_Q} {x y:Rat} {Q:ref01_Q->Prop}
theorem ref01_one_run {Q:ref01_whole->Prop} (H:∀ z,WRep z 1->Q z):ref01_one.f.run Q:=H _ WRep.one
theorem ref01_den_run {Q:ref01_whole->Prop} (h:RRep a x) (H:∀ z,WRep z x.den->Q z):(ref01_Q_den.f a).run Q:=by
 unfold ref01_Q_den.f
 rcases h.d with hd | ⟨hd,h1⟩
 ·refine W.bd (ref01_isNought_run hd ?_)
  skip
  rw [if_neg (by simpa using x.den_nz)]
  exact H _ hd
 ·refine W.bd (ref01_isNought_run hd ?_)
  skip
  rw [if_pos (by simp)]
  refine ref01_one_run fun z hz=>H z ?_
  rw [h1];exact hz
theorem ref01_ratio_run {n d:Int} {u v:ref01_whole} (hu:WRep u n) (hv:WRep v d) (hd:d≠0) (lu:u.d.length<=1099511627775) (lv:v.d.length<=1099511627775) (H:∀ z,RRep z (Rat.divInt n d)->Q z):(ref01_ratio.f u v).run Q:=by
 have go:∀ (n:Int) (d:Nat) (u v:ref01_whole),WRep u n->WRep v d->d≠0->u.d.length<=1099511627775->v.d.length<=1099511627775->(∀ z,RRep z (Rat.divInt n d)->Q z)->(ref01_ratio.j1 u v).run Q:=by
  intro n d u v hu hv hd lu lv H
  have hg0:=Nat.gcd_pos_of_pos_right n.natAbs (Nat.pos_of_ne_zero hd)
  have hnum:=over_num n d hd
  have hden:=over_den n d hd
  unfold ref01_ratio.j1
  refine W.bd (ref01_isOne_run hv ?_)
  skip
  refine W.run_if (fun c=>H _ ?_) (fun c=>?_)
  ·have hd1:d=1:=by have h:=of_decide_eq_true c;omega
   subst hd1
   rw [Nat.gcd_one_right] at hnum hden
   refine ⟨?_,.inl ?_⟩
   ·rw [hnum];simpa using hu
   ·rw [hden];simpa using hv
  ·refine ref01_divisor_run (n:=d) hu.wd hv.wd hu.tr hv.tr lu lv hu.abs (by rw [hv.abs];simp) fun g tg wg vg=>?_
   have last1:Nat.gcd n.natAbs d=1->(ref01_ratio.j2 u v).run Q:=by
    intro h1
    refine H _ ⟨?_,.inl ?_⟩
    ·rw [hnum,h1];simpa using hu
    ·rw [hden,h1];simpa using hv
   have last2:(ref01_ratio.j3 u g v true).run Q:=by
    unfold ref01_ratio.j3
    rw [if_pos rfl]
    have hg:g≠[]:=fun e=>by rw [e,wv_nil] at vg;omega
    have lg:g.length<=1099511627775:=by
     refine Nat.le_trans (tg.len_le hv.wd wg ?_) lv
     rw [vg,hv.abs]
     have:=Nat.gcd_le_right n.natAbs (Nat.pos_of_ne_zero hd)
     simp;omega
    refine ref01_parts_run hu.wd wg hu.tr tg hg lu lg fun q1 r1 t1 _ w1 _ e1 _=>ref01_parts_run hv.wd wg hv.tr tg hg lv lg fun q2 r2 t2 _ w2 _ e2 _=>W.bd (ref01_signed_run w1 t1 fun z1 hz1 _=>W.bd (ref01_signed_run w2 t2 fun z2 hz2 _=>H _ ⟨?_,.inl ?_⟩))
    ·simp only at hz1 |-
     rw [hnum]
     have e:(if u.minus=true then - wv q1 else wv q1)=n / (Nat.gcd n.natAbs d:Nat):=by
      obtain ⟨k,hk⟩:((Nat.gcd n.natAbs d:Nat):Int) ∣ n:=Int.ofNat_dvd_left.2 (Nat.gcd_dvd_left _ _)
      have hgz:((Nat.gcd n.natAbs d:Nat):Int)≠0:=by omega
      have hG:(0:Int)<((Nat.gcd n.natAbs d:Nat):Int):=by omega
      have hneg:=hu.neg_iff
      rw [e1,vg,hu.abs]
      generalize ((Nat.gcd n.natAbs d:Nat):Int)=G at *
      subst hk
      rw [Int.mul_ediv_cancel_left _ hgz]
      by_cases hm:u.minus=true
      ·rw [if_pos hm]
       have h1:=hneg.1 hm
       rw [show ((G*k).natAbs:Int)=G*(-k) by rw [Int.mul_neg];omega,Int.mul_ediv_cancel_left _ hgz]
       omega
      ·rw [if_neg hm]
       have h1: ¬ G*k<0:=fun h=>hm (hneg.2 h)
       rw [show ((G*k).natAbs:Int)=G*k by omega,Int.mul_ediv_cancel_left _ hgz]
     rwa [e] at hz1
    ·simp only at hz2 |-
     rw [if_neg (by simp)] at hz2
     rw [hden]
     rw [e2,vg,hv.abs] at hz2
     simpa using hz2
   dsimp only
   refine W.run_if (fun c1=>last2) (fun c1=>W.req_i (by omega) (W.run_if (fun c2=>last2) (fun c2=>?_)))
   unfold ref01_ratio.j3
   rw [if_neg (by simp)]
   refine last1 ?_
   obtain ⟨e,he⟩:∃ e,g= [e]:=by
    match hh:g,(show g.length=1 by omega) with
    | [e],_=>exact ⟨e,rfl⟩
   rw [he,show gi [e] 0=e from rfl] at c2
   rw [he,wv_sing] at vg
   omega
 unfold ref01_ratio.f
 refine W.bd (ref01_isNought_run hv ?_)
 skip
 rw [if_neg (by simpa using hd)]
 rw [rat_over n d hd] at H
 refine W.run_if (fun c=>?_) (fun c=>?_)
 ·have hneg:=hv.neg_iff.1 c
  rw [if_pos hneg] at H
  refine ref01_neg_run hu fun u' hu'=>ref01_neg_run hv fun v' hv'=>go _ _ _ _ hu' (by rwa [show -d=(d.natAbs:Int) by omega] at hv') (by omega) ?_ ?_ H
  ·have h1:=hu.tr.len_le hu'.wd hu.wd
   have:=hu'.tr.len_le hu.wd hu'.wd (by rw [hu.abs,hu'.abs];omega)
   omega
  ·have:=hv'.tr.len_le hv.wd hv'.wd (by rw [hv.abs,hv'.abs];omega)
   omega
 ·have hneg: ¬ d<0:=fun h=>c (hv.neg_iff.2 h)
  rw [if_neg hneg] at H
  exact go _ _ _ _ hu (by rwa [show d=(d.natAbs:Int) by omega] at hv) (by omega) lu lv H
end
end Go.Proofs.Ytgbmmbfminafnaa.E
namespace Go.Proofs.Ytgbmmbfminafnaa.E
open Go Go.RowKit
theorem int_over (n:Int):(Rat.divInt n 1).num=n/\(Rat.divInt n 1).den=1:=by
 have h1:=over_num n 1 (by decide)
 have h2:=over_den n 1 (by decide)
 rw [Nat.gcd_one_right] at h1 h2
 exact ⟨by simpa using h1,by simpa using h2⟩
theorem den_len {s:Nat} {x:Rat} (h:Sz s x):(x.den:Int).natAbs<2 ^ s:=by simpa using h.2
section
variable {a b:ref01_Q} {x y:Rat} {Q:ref01_Q->Prop}
theorem RRep.int {z:ref01_whole} {n:Int} {u:ref01_whole} (hz:WRep z n) (hu:WRep u 1):RRep ⟨z,u⟩ (n:Rat):=⟨by simpa using hz,.inl (by simpa using hu)⟩
theorem ref01_Int_run {n:Int} (hn:I64 n) (H:∀ z,RRep z (n:Rat)->Q z):(ref01_Int.f n).run Q:=by
 unfold ref01_Int.f
 exact W.bd (ref01_ofInt_run hn fun z hz=>W.bd (ref01_one_run fun u hu=>H _ (RRep.int hz hu)))
theorem ref01_Mul_run (ha:RRep a x) (hb:RRep b y) (ox:Ok x) (oy:Ok y) (H:∀ z,RRep z (x*y)->Q z):(ref01_Q_Mul.f a b).run Q:=by
 obtain ⟨s,hs,sx⟩:=ox
 obtain ⟨t,ht,sy⟩:=oy
 rw [mul_over] at H
 have hbits:=bits_mul sx.1 sy.1
 have hbits3:=bits_mul (den_len sx) (den_len sy)
 unfold ref01_Q_Mul.f
 refine W.bd (ref01_den_run ha fun u hu=>W.bd (ref01_den_run hb fun v hv=>?_))
 have lx:=ha.n.len sx.1
 have ly:=hb.n.len sy.1
 have lu:=hu.len (den_len sx)
 have lv:=hv.len (den_len sy)
 have last:(ref01_Q_Mul.j1 a b u v ⟨⟨[],false⟩,⟨[],false⟩⟩).run Q:=by
  unfold ref01_Q_Mul.j1
  refine W.bd (ref01_mul_run ha.n hb.n (by omega) (by omega) fun n hn=>W.bd (ref01_mul_run hu hv (by omega) (by omega) fun d hd=>W.bd (ref01_ratio_run hn hd (Int.mul_ne_zero (den_ne x) (den_ne y)) ?_ ?_ fun z hz=>H z hz)))
  ·have:=hn.len hbits;omega
  ·have:=hd.len hbits3;omega
 refine W.bd (ref01_isOne_run hu (W.run_if (fun c=>W.bd (ref01_isOne_run hv (W.run_if (fun c2=>?_) (fun c2=>last)))) (fun c=>last)))
 have c1:=of_decide_eq_true c
 have c3:=of_decide_eq_true c2
 rw [c1,c3,Int.mul_one] at H
 refine W.bd (ref01_mul_run ha.n hb.n (by omega) (by omega) fun n hn=>H _ ⟨?_,.inl ?_⟩)
 ·rw [(int_over _).1];exact hn
 ·rw [(int_over _).2];rwa [c1] at hu
theorem ref01_Div_run (ha:RRep a x) (hb:RRep b y) (ox:Ok x) (oy:Ok y) (h0:y≠0) (H:∀ z,RRep z (x / y)->Q z):(ref01_Q_Div.f a b).run Q:=by
 obtain ⟨s,hs,sx⟩:=ox
 obtain ⟨t,ht,sy⟩:=oy
 rw [div_over] at H
 have hbits:=bits_mul sx.1 (den_len sy)
 have hbits3:=bits_mul (den_len sx) sy.1
 have lx:=ha.n.len sx.1
 have ly:=hb.n.len sy.1
 unfold ref01_Q_Div.f
 refine W.bd (ref01_den_run hb fun v hv=>?_)
 have lv:=hv.len (den_len sy)
 refine W.bd (ref01_mul_run ha.n hv (by omega) (by omega) fun n hn=>W.bd (ref01_den_run ha fun u hu=>?_))
 have lu:=hu.len (den_len sx)
 refine W.bd (ref01_mul_run hu hb.n (by omega) (by omega) fun d hd=>W.bd (ref01_ratio_run hn hd (Int.mul_ne_zero (den_ne x) (fun e=>h0 (Rat.num_eq_zero.1 e))) ?_ ?_ fun z hz=>H z hz))
 ·have:=hn.len hbits;omega
 ·have:=hd.len hbits3;omega
theorem ref01_small_run {z:ref01_whole} {n:Int} {Q:Int×Bool->Prop} (h:WRep z n) (H:∀ v b,(b=true->v=n)->(b=true ↔ -9223372036854775808<=n/\n<=9223372036854775807)->Q (v,b)):(ref01_whole_small.f z).run Q:=by
 have hv:=h.abs
 unfold ref01_whole_small.f
 refine W.run_if (fun c=>H _ _ (fun e=>by simp at e) ⟨fun e=>by simp at e,fun e=>?_⟩) (fun c=>?_)
 ·have h1:=h.tr.ge h.wd (fun e=>by rw [e] at c;simp at c)
  have h2:=bmono (i:=2) (j:=z.d.length - 1) (by omega)
  rw [show (4294967296:Int) ^ 2=18446744073709551616 from by decide] at h2
  omega
 ·refine W.loop_c (fun s:Int×Int=>∃ i:Nat,s.2=i/\i<=z.d.length/\s.1=sv (gn z.d) 0 i) (fun s=>z.d.length - s.2.toNat) ⟨0,rfl,Nat.zero_le _,rfl⟩ ?_
  rintro ⟨u,_⟩ P ⟨i,rfl,hi,hu⟩ hgo hbrk hout
  simp only at hu hgo |-
  have h0:=h.wd i
  have hs0:=sv_nonneg h.wd 0 i
  have hs1:=sv_lt h.wd 0 i
  unfold ref01_whole_small.l1
  rw [gi_nat]
  refine W.run_if (fun c2=>W.req_i (by omega) (hgo _ ⟨i+1,by simp,by omega,?_⟩ (by simp;omega))) (fun c2=>hbrk _ ?_)
  ·simp only
   rw [sv,Nat.zero_add]
   rcases (show i=0\/i=1 by omega) with rfl | rfl
   ·rw [show ((32:Int)*(((0:Nat):Int) % 18446744073709551616)) % 18446744073709551616=((0:Nat):Int) by decide,ishl_n _ _ _ (by decide),wrap_u64,Int.pow_zero,Int.mul_one,Int.emod_eq_of_lt h0.1 (by omega),hu]
    have:=ior_sum64 (a:=0) (b:=gn z.d 0) (n:=32) (by decide) h0.1 h0.2 (by show (0:Int)*4294967296+_<_;omega)
    rw [Int.zero_mul] at this
    simpa [sv] using this
   ·rw [show ((32:Int)*(((1:Nat):Int) % 18446744073709551616)) % 18446744073709551616=32 by decide,ior_comm,hu]
    rw [Int.pow_one] at hs1
    rw [ior64_32 h0.1 h0.2 hs0 hs1,Int.pow_one]
    omega
  ·obtain rfl:i=z.d.length:=by omega
   have hun:u=n.natAbs:=by rw [hu,<- hv];rfl
   have hneg:=h.neg_iff
   rw [hu] at hun
   have hlt:u<18446744073709551616:=by
    have:=bmono (i:=z.d.length) (j:=2) (by omega)
    rw [show (4294967296:Int) ^ 2=18446744073709551616 from by decide] at this
    omega
   unfold ref01_whole_small.j1
   refine W.run_if (fun c3=>H _ _ (fun e=>?_) ?_) (fun c3=>H _ _ (fun e=>?_) ?_)
   ·have e:=of_decide_eq_true e
    have:=hneg.1 c3
    simp only at e |-
    have hw:∀ w:Int,w=18446744073709551616 - (n.natAbs:Int)->9223372036854775808<=w->w<18446744073709551616->IntKind.i64.wrap w=n:=by
     intro w h1 h2 h3
     have h4:=wrap64_is w
     rw [h4]
     omega
    exact hw _ (by omega) (by omega) (by omega)
   ·have:=hneg.1 c3
    simp only [decide_eq_true_eq]
    omega
   ·have e:=of_decide_eq_true e
    have: ¬ n<0:=fun h=>c3 (hneg.2 h)
    simp only at e |-
    rw [wrap_i64 (by omega) (by omega)]
    omega
   ·have: ¬ n<0:=fun h=>c3 (hneg.2 h)
    simp only [decide_eq_true_eq]
    omega
end
end Go.Proofs.Ytgbmmbfminafnaa.E
