/- Quotient and rest, as the reference finds them. -/
import Derived.Test.YtlmpoindlejefaaBM6
set_option linter.unusedVariables false
set_option linter.unusedSimpArgs false
namespace Go.Proofs.Ytlmpoindlejefaa.E
open Go Go.RowKit
theorem Wd.two {x y:Int} (hx:0<=x/\x<4294967296) (hy:0<=y/\y<4294967296):Wd (gn [x,y]):=Wd.of (by
 intro z hz
 simp only [List.mem_cons,List.not_mem_nil,or_false] at hz
 rcases hz with rfl | rfl
 ·exact hx
 ·exact hy)
theorem zDg {a b q r:Int} (hb:0<b) (h:a=q*b+r) (h0:0<=r) (h1:r<b):q=a / b/\r=a % b:=by
 have:=Int.emod_add_mul_ediv a b
 exact zIX hb h h0 h1 (q':=a / b) (r':=a % b) (by rw [Int.mul_comm (a / b)];omega) (Int.emod_nonneg a (by omega)) (Int.emod_lt_of_pos a hb)
section
variable {a b:List Int} {Q:List Int×List Int->Prop}
def Quo (a b:List Int) (Q:List Int×List Int->Prop):Prop:=∀ q r,Tr q->Tr r->Wd (gn q)->Wd (gn r)->wv q=wv a / wv b->wv r=wv a % wv b->Q (q,r)
theorem zIn (wa:Wd (gn a)) (wb:Wd (gn b)) (hb:b.length=1) (tb:Tr b) (la:a.length<=1099511627776) (H:Quo a b Q) :
  (W.bind (W.loop (fun (s:(List Int)×Int×Int)=>zAR.l3 a b s.1 s.2.1 s.2.2) ((List.replicate (a.length:Int).toNat (0:Int)),0,((a.length:Int) - 1))) (Lp.on (fun s=>zAR.j5 s.1 s.2.1) (fun r=>W.ret r))).run Q:=by
 obtain ⟨d,rfl⟩:∃ d,b= [d]:=by
  match b,hb with
  | [d],_=>exact ⟨d,rfl⟩
 have hd:=wb 0
 have ed:gn [d] 0=d:=rfl
 rw [ed] at hd
 have hd0:d≠0:=tb (by simp)
 rw [Int.toNat_natCast]
 refine W.loop_c (fun s:List Int×Int×Int=>∃ i m:Nat,s.2.2=(i:Int) - 1/\i+m=a.length/\s.1.length=a.length/\Wd (gn s.1)/\0<=s.2.1/\s.2.1<d/\sv (gn a) i m=sv (gn s.1) i m*d+s.2.1) (fun s=>(s.2.2+1).toNat) ⟨a.length,0,rfl,rfl,by simp,Wd.rep _,by simp,by simp only;omega,by simp [sv]⟩ ?_
 rintro ⟨out,rest,_⟩ P ⟨i,m,rfl,him,h1,h2,h3,h4,h5⟩ hgo hbrk hout
 simp only at h1 h2 h3 h4 h5 hgo |-
 unfold zAR.l3
 refine W.run_if (fun c=>?_) (fun c=>hbrk _ ?_)
 ·obtain ⟨j,rfl⟩:∃ j,i=j+1:=⟨i - 1,by omega⟩
  have e:((j+1:Nat):Int) - 1=(j:Int):=by omega
  rw [e,zBm,show gi [d] 0=d from rfl,Int.toNat_natCast]
  have ha:=wa j
  rw [zEN h3 (by omega) ha.1 ha.2,Int.tdiv_eq_ediv_of_nonneg (by omega),Int.tmod_eq_emod_of_nonneg (by omega)]
  have e1:=Int.emod_add_mul_ediv (rest*4294967296+gn a j) d
  have e2:=Int.emod_nonneg (rest*4294967296+gn a j) hd0
  have e3:=Int.emod_lt_of_pos (rest*4294967296+gn a j) (show 0<d by omega)
  have e4:(rest*4294967296+gn a j) / d<4294967296:=Int.ediv_lt_of_lt_mul (by omega) (by omega)
  have e5:0<=(rest*4294967296+gn a j) / d:=Int.ediv_nonneg (by omega) (by omega)
  rw [show (rest*4294967296+gn a j) / d % 4294967296=(rest*4294967296+gn a j) / d by omega]
  have hl:([d].length:Int)=1:=rfl
  refine W.req_i (by omega) (W.req_i (by omega) (W.req_i hd0 (W.req_i (by omega) (W.req_i (by omega) (W.req_i hd0 (hgo _ ⟨j,m+1,rfl,by omega,by simp [h1],h2.set ⟨e5,e4⟩,e2,e3,?_⟩ (by simp only;omega)))))))
  simp only
  rw [zDk,zDk,zA7,if_pos ⟨rfl,by omega⟩,zBo (f:=gn (out.set j ((rest*4294967296+gn a j) / d))) (g:=gn out) (fun k hk _=>by rw [zA7,if_neg (by omega)]),h5]
  grind
 ·obtain rfl:i=0:=by omega
  have hm:m=a.length:=by omega
  subst hm
  have hv:wv a=wv out*d+rest:=by
   show sv (gn a) 0 a.length=sv (gn out) 0 out.length*d+rest
   rw [h1];exact h5
  obtain ⟨u1,u2⟩:=zDg (by omega) hv h3 h4
  unfold zAR.j5
  simp only
  rw [show rest % 4294967296=rest by omega]
  refine zBf h2 fun q t1 t2 t3 t4=>zBf (Wd.one ⟨h3,by omega⟩) fun r s1 s2 s3 s4=>H q r t1 s1 t2 s2 ?_ ?_
  ·rw [t3,zDh];exact u1
  ·rw [s3,zDh,zDh];exact u2
theorem zIY {x:List Int} {n:Nat} {R:Int} (wx:Wd (gn x)) (hn:n<32) (hl:x.length<=1099511627776) (hv:wv x=2 ^ n*R) {Q:List Int->Prop} (H:∀ z,Wd (gn z)->wv z=R->Q z) {S:List Int×Int->W (List Int×List Int)} {O:List Int×List Int->W (List Int×List Int)} {Q':List Int×List Int->Prop} (hS:∀ z i,Q z->(S (z,i)).run Q') :
  (W.bind (W.loop (fun (s:(List Int)×Int)=>zAR.l1 (n:Int) s.1 s.2) (x,0)) (Lp.on S O)).run Q':=by
 have hp:=zDa n
 have hp3:=zDa (32 - n)
 have hs:=zFQ (show n<=32 by omega)
 have h31:=zHw (show n<=31 by omega)
 have e31:(2:Int) ^ 31=2147483648:=by decide
 rw [e31] at h31
 have hn64:(n:Int) % 18446744073709551616=n:=by omega
 have hn32:(32 - (n:Int)) % 18446744073709551616=((32 - n:Nat):Int):=by omega
 refine W.loop_c (fun s:List Int×Int=>∃ i:Nat,s.2=i/\i<=x.length/\s.1.length=x.length/\Wd (gn s.1)/\(∀ j,i<=j->gn s.1 j=gn x j)/\2 ^ n*sv (gn s.1) 0 i=sv (gn x) 0 i - gn x 0 % 2 ^ n+4294967296 ^ i*(gn x i % 2 ^ n)) (fun s=>x.length - s.2.toNat) ⟨0,rfl,Nat.zero_le _,rfl,wx,fun _ _=>rfl,by simp [sv];omega⟩ ?_
 rintro ⟨z,_⟩ P ⟨i,rfl,hi,h1,h2,h3,h4⟩ hgo hbrk hout
 simp only at h1 h2 h3 h4 hgo |-
 unfold zAR.l1
 rw [hn64,hn32,zBm,Int.toNat_natCast]
 have hx:=wx i
 have hx1:=wx (i+1)
 have hsr:ishr .u32 (gn z i) n=gn x i / 2 ^ n:=by rw [h3 i (Nat.le_refl _),zGc _ _ _ (by show n<=32;omega)]
 rw [hsr]
 have q0:0<=gn x i / 2 ^ n:=Int.ediv_nonneg hx.1 (Int.le_of_lt hp)
 have q1:gn x i / 2 ^ n<2 ^ (32 - n):=Int.ediv_lt_of_lt_mul hp (by rw [Int.mul_comm,<- hs];exact hx.2)
 have hp3':(2:Int) ^ (32 - n)<=4294967296:=by
  have:=zHw (show 32 - n<=32 by omega)
  have e:(2:Int) ^ 32=4294967296:=by decide
  omega
 have next:i<x.length->∀ v,v=gn x i / 2 ^ n+(gn x (i+1) % 2 ^ n)*2 ^ (32 - n)->∀ z',z'.length=x.length->Wd (gn z')->(∀ j,j≠i->gn z' j=gn z j)->gn z' i=v->P (.go (z',(i:Int)+1)):=by
  intro hlt v hv z' a1 a2 a3 a4
  refine hgo _ ⟨i+1,by simp,by omega,a1,a2,fun j hj=>by rw [a3 j (by omega)];exact h3 j (by omega),?_⟩ (by simp;omega)
  simp only
  rw [sv,Nat.zero_add,zBo (g:=gn z) (fun j _ hj=>a3 j (by omega)),a4,hv,sv,Nat.zero_add,bsucc]
  have e1:=Int.emod_add_mul_ediv (gn x i) (2 ^ n)
  have e2:(4294967296:Int)*(gn x (i+1) % 2 ^ n)=2 ^ n*((gn x (i+1) % 2 ^ n)*2 ^ (32 - n)):=by rw [hs];grind
  have e3:4294967296*4294967296 ^ i*(gn x (i+1) % 2 ^ n)=4294967296 ^ i*(2 ^ n*((gn x (i+1) % 2 ^ n)*2 ^ (32 - n))):=by rw [<- e2];grind
  rw [e3]
  generalize (4294967296:Int) ^ i=E at *
  generalize (2:Int) ^ n=p at *
  generalize (gn x (i+1) % p)*2 ^ (32 - n)=w at *
  generalize gn x i / p=d at *
  generalize gn x i % p=mm at *
  grind
 refine W.run_if (fun c=>W.req_i (by omega) (W.req_i (by omega) (W.run_if (fun c2=>?_) (fun c2=>?_)))) (fun c=>hbrk _ ?_)
 ·rw [List.length_set] at c2
  rw [zBm,zA7,if_pos ⟨rfl,by omega⟩,zFD (show (i:Int)+1=((i+1:Nat):Int) by omega),zA7,if_neg (by omega),h3 (i+1) (by omega)]
  have e1:=zFI hx1 (n:=32 - n)
  have e2:ishl .u64 (gn x (i+1)) ((32 - n:Nat):Int) % 4294967296=(gn x (i+1) % 2 ^ n)*2 ^ (32 - n):=by
   have s1:gn x (i+1)*2 ^ (32 - n)<18446744073709551616:=by
    have:gn x (i+1)*2 ^ (32 - n)<=4294967295*4294967296:=Int.mul_le_mul (by omega) hp3' (Int.le_of_lt hp3) (by decide)
    omega
   have s0:0<=gn x (i+1)*2 ^ (32 - n):=Int.mul_nonneg hx1.1 (Int.le_of_lt hp3)
   rw [zIJ _ _ _ (by show 32 - n<=64;omega),wrap_u64,Int.emod_eq_of_lt s0 s1]
   have hs':(4294967296:Int)=2 ^ (32 - n)*2 ^ n:=by rw [hs,Int.mul_comm]
   rw [hs',Int.mul_comm (gn x (i+1)),Int.mul_emod_mul_of_pos _ _ hp3,Int.mul_comm]
  rw [e2]
  have m0:=Int.emod_nonneg (gn x (i+1)) (show (2:Int) ^ n≠0 by omega)
  have m1:=Int.emod_lt_of_pos (gn x (i+1)) hp
  have m2:(gn x (i+1) % 2 ^ n+1)*2 ^ (32 - n)<=2 ^ n*2 ^ (32 - n):=Int.mul_le_mul_of_nonneg_right (by omega) (Int.le_of_lt hp3)
  rw [Int.add_mul,Int.one_mul,<- hs] at m2
  have m3:0<=(gn x (i+1) % 2 ^ n)*2 ^ (32 - n):=Int.mul_nonneg m0 (Int.le_of_lt hp3)
  rw [zHK,zFZ m0 q0 q1 (by omega)]
  refine W.req_i (by rw [List.length_set];omega) (W.req_i (by rw [List.length_set];omega) (W.req_i (by rw [List.length_set];omega) ?_))
  refine next (by omega) _ rfl _ (by simp [h1]) ((h2.set (by omega)).set (by omega)) (fun j hj=>by rw [zA7,if_neg (by omega),zA7,if_neg (by omega)]) ?_
  rw [zA7,if_pos ⟨rfl,by rw [List.length_set];omega⟩,Int.add_comm]
 ·rw [List.length_set] at c2
  refine next (by omega) _ rfl _ (by simp [h1]) (h2.set (by omega)) (fun j hj=>by rw [zA7,if_neg (by omega)]) ?_
  rw [zA7,if_pos ⟨rfl,by omega⟩,zDS (l:=x) (show x.length<=i+1 by omega)]
  simp
 ·obtain rfl:i=x.length:=by omega
  refine hS _ _ (H z h2 ?_)
  rw [zDS (l:=x) (Nat.le_refl _)] at h4
  have hx0:gn x 0 % 2 ^ n=0:=by
   have e:wv x % 2 ^ n=gn x 0 % 2 ^ n:=by
    rcases Nat.eq_zero_or_pos x.length with h0 | h0
    ·rw [wv,h0,zDS (by omega)];rfl
    ·obtain ⟨m,hm⟩:∃ m,x.length=m+1:=⟨x.length - 1,by omega⟩
     rw [wv,hm,zDk,hs,Int.mul_assoc,Int.add_mul_emod_self_left]
   rw [<- e,hv,Int.mul_emod_right]
  rw [hx0] at h4
  have h5:2 ^ n*wv z=2 ^ n*R:=by
   rw [<- hv,wv,h1,h4]
   simp [wv]
  exact Int.eq_of_mul_eq_mul_left (by omega) h5
end
structure Div (A V:Int) (X out:List Int) (k m i:Nat):Prop where
 lX:X.length=m+k
 lo:out.length=m
 wX:Wd (gn X)
 wo:Wd (gn out)
 im:i<=m
 high:∀ j,i+k<=j->gn X j=0
 lt:sv (gn X) i k<V
 val:A=sv (gn X) 0 i+4294967296 ^ i*(sv (gn X) i k+sv (gn out) i (m - i)*V)
theorem Div.step {A:Int} {y X X' out:List Int} {k m i:Nat} {q:Int} (h:Div A (wv y) X out k m (i+1)) (wy:Wd (gn y)) (ky:y.length=k) (w:Wout X X' y i k q):Div A (wv y) X' (out.set i q) k m i:=by
 have him:=h.im
 have hVk:wv y<4294967296 ^ k:=by have:=zG7 wy;rwa [ky] at this
 have hzero:gn X' (i+k)=0:=by
  have h1:=w.lt
  rw [sv] at h1
  have h2:=zBL w.wd i k
  have h3:=w.wd (i+k)
  rcases Int.lt_or_le 0 (gn X' (i+k)) with c | c
  ·have:4294967296 ^ k*1<=4294967296 ^ k*gn X' (i+k):=Int.mul_le_mul_of_nonneg_left (by omega) (Int.le_of_lt (bpos k))
   omega
  ·omega
 have hsv:sv (gn X') i (k+1)=sv (gn X') i k:=by rw [sv,hzero,Int.mul_zero,Int.add_zero]
 refine ⟨by rw [w.len];exact h.lX,by rw [List.length_set];exact h.lo,w.wd,h.wo.set ⟨w.q0,w.q1⟩,by omega,fun j hj=>?_,by rw [<- hsv];exact w.lt,?_⟩
 ·rcases Nat.eq_or_lt_of_le hj with e | e
  ·rw [<- e];exact hzero
  ·rw [w.high j (by omega)];exact h.high j (by omega)
 ·have hval:=h.val
  have hw:=w.val
  rw [hsv,zDk] at hw
  rw [sv,Nat.zero_add,bsucc] at hval
  obtain ⟨d,hd⟩:∃ d,m - i=d+1:=⟨m - i - 1,by omega⟩
  have hd':m - (i+1)=d:=by omega
  rw [hd'] at hval
  rw [hd,zDk,zA7,if_pos ⟨rfl,by rw [h.lo];omega⟩,zBo (f:=gn (out.set i q)) (g:=gn out) (fun j hj _=>by rw [zA7,if_neg (by omega)]),zBo (f:=gn X') (g:=gn X) (j:=0) (fun j _ hj=>w.low j (by omega)),hval]
  generalize (4294967296:Int) ^ i=E at *
  grind
section
variable {a b:List Int} {Q:List Int×List Int->Prop}
theorem zDo (wa:Wd (gn a)) (wb:Wd (gn b)) (ta:Tr a) (tb:Tr b) (hb:b≠[]) (la:a.length<=1099511627775) (lb:b.length<=1099511627775) (H:Quo a b Q):(zAR.f a b).run Q:=by
 unfold zAR.f
 refine zC3 wa wb ta tb fun r hr=>W.run_if (fun c=>?_) (fun c=>W.run_if (fun c2=>W.req_i (by omega) (zIn wa wb (by omega) tb (by omega) H)) (fun c2=>?_))
 ·have hlt:wv a<wv b:=by rcases hr with ⟨_,h⟩ | ⟨h,_⟩ | ⟨h,_⟩ <;> omega
  have h0:=zDi wa
  refine H _ _ Tr.nil ta Wd.nil wa ?_ ?_
  ·rw [Int.ediv_eq_zero_of_lt h0 hlt];rfl
  ·rw [Int.emod_eq_of_lt h0 hlt]
 have hab:wv b<=wv a:=by rcases hr with ⟨_,h⟩ | ⟨_,h⟩ | ⟨_,h⟩ <;> omega
 have hlab:=tb.len_le wa wb hab
 have hb1:=List.length_pos_iff.2 hb
 have hlast:=tb hb
 have hbl:=wb (b.length - 1)
 unfold zAR.j1
 rw [zFD (show (b.length:Int) - 1=((b.length - 1:Nat):Int) by omega)]
 refine W.req_i (by omega) (zDC (by omega) (by omega) fun n hn=>?_)
 obtain ⟨hn32,hn1,hn2⟩:=hn
 have hp:=zDa n
 dsimp only
 rw [show (n:Int) % 18446744073709551616=n by omega]
 refine zEA wa hn32 (by omega) fun X wX lX vX=>zEA wb hn32 (by omega) fun y0 wy0 ly0 vy0=>zBf wy0 fun y ty wy vy _=>?_
 have hV:wv y=wv b*2 ^ n:=vy.trans vy0
 obtain ⟨m0,hm0⟩:∃ m,b.length=m+1:=⟨b.length - 1,by omega⟩
 have hbv:wv b=sv (gn b) 0 m0+4294967296 ^ m0*gn b m0:=by rw [wv,hm0,sv,Nat.zero_add]
 rw [hm0,Nat.add_sub_cancel] at hlast hbl hn1 hn2
 have b0:=zBL wb 0 m0
 have b1:=zE7 wb 0 m0
 have hE:=bpos m0
 have hVlo:4294967296 ^ m0*2147483648<=wv y:=by
  have h1:4294967296 ^ m0*2147483648<=4294967296 ^ m0*(gn b m0*2 ^ n):=Int.mul_le_mul_of_nonneg_left hn1 (Int.le_of_lt hE)
  have h2:=Int.mul_nonneg b0 (Int.le_of_lt hp)
  rw [hV,hbv,Int.add_mul,Int.mul_assoc]
  omega
 have hVhi:wv y<4294967296 ^ (m0+1):=by
  have hs:=zFQ (show n<=32 by omega)
  have h1:(sv (gn b) 0 m0+1)*2 ^ n<=4294967296 ^ m0*2 ^ n:=Int.mul_le_mul_of_nonneg_right (by omega) (Int.le_of_lt hp)
  have h2:gn b m0*2 ^ n+2 ^ n<=4294967296:=by
   have e1:gn b m0*2 ^ n<2 ^ (32 - n)*2 ^ n:=by rw [Int.mul_comm (2 ^ (32 - n)),<- hs];exact hn2
   have e2:gn b m0<2 ^ (32 - n):=Int.lt_of_mul_lt_mul_right e1 (Int.le_of_lt hp)
   have e3:(gn b m0+1)*2 ^ n<=2 ^ (32 - n)*2 ^ n:=Int.mul_le_mul_of_nonneg_right (by omega) (Int.le_of_lt hp)
   rw [Int.add_mul,Int.one_mul,Int.mul_comm (2 ^ (32 - n)),<- hs] at e3
   exact e3
  have h3:4294967296 ^ m0*(gn b m0*2 ^ n+2 ^ n)<=4294967296 ^ m0*4294967296:=Int.mul_le_mul_of_nonneg_left h2 (Int.le_of_lt hE)
  rw [hV,hbv,bsucc,Int.add_mul,Int.mul_assoc]
  rw [Int.add_mul,Int.one_mul] at h1
  rw [Int.mul_add] at h3
  omega
 have hy0:y≠[]:=by
  rintro rfl
  rw [zGJ] at hVlo
  omega
 have hyl:y.length=m0+1:=by
  have h1:=ty.ge wy hy0
  have h2:=zG7 wy
  rcases Nat.lt_trichotomy y.length (m0+1) with c | c | c
  ·have:=bmono (i:=y.length) (j:=m0) (by omega)
   omega
  ·exact c
  ·have:=bmono (i:=m0+1) (j:=y.length - 1) (by omega)
   omega
 have htop:2147483648<=gn y m0:=by
  have h1:wv y=sv (gn y) 0 m0+4294967296 ^ m0*gn y m0:=by rw [wv,hyl,sv,Nat.zero_add]
  have h2:=zE7 wy 0 m0
  rcases Int.lt_or_le (gn y m0) 2147483648 with c | c
  ·have:4294967296 ^ m0*(gn y m0+1)<=4294967296 ^ m0*2147483648:=Int.mul_le_mul_of_nonneg_left (by omega) (Int.le_of_lt hE)
   rw [Int.mul_add] at this
   omega
  ·exact c
 have hVp:0<wv y:=by omega
 obtain ⟨m,hm⟩:∃ m,a.length+1=m+(m0+1):=⟨a.length - m0,by omega⟩
 have hlXy:(X.length:Int) - (y.length:Int)=(m:Nat):=by omega
 dsimp only
 rw [hlXy,Int.toNat_natCast,List.length_replicate]
 refine W.req_i (by omega) (W.req_i (by omega) (W.req_i (by omega) ?_))
 have hinit:Div (wv X) (wv y) X (List.replicate m 0) (m0+1) m m:=by
  refine ⟨by omega,by simp,wX,Wd.rep _,Nat.le_refl _,fun j hj=>zDS (by omega),?_,?_⟩
  ·-- the first word is less than 2^n
   have h1:wv X=sv (gn X) 0 a.length+4294967296 ^ a.length*gn X a.length:=by rw [wv,lX,sv,Nat.zero_add]
   have h2:=zBL wX 0 a.length
   have h3:wv X<4294967296 ^ a.length*2 ^ n:=by rw [vX];exact Int.mul_lt_mul_of_pos_right (zG7 wa) hp
   have h4:gn X a.length<2 ^ n:=by
    apply Int.lt_of_mul_lt_mul_left (a:=4294967296 ^ a.length) _ (Int.le_of_lt (bpos _))
    omega
   have h5:=zHw (show n<=31 by omega)
   have e31:(2:Int) ^ 31=2147483648:=by decide
   have h6:sv (gn X) m (m0+1)=sv (gn X) m m0+4294967296 ^ m0*gn X a.length:=by rw [sv,show m+m0=a.length by omega]
   have h7:=zE7 wX m m0
   have h8:4294967296 ^ m0*(gn X a.length+1)<=4294967296 ^ m0*2147483648:=Int.mul_le_mul_of_nonneg_left (by omega) (Int.le_of_lt hE)
   rw [Int.mul_add] at h8
   omega
  ·rw [Nat.sub_self,show sv (gn (List.replicate m 0)) m 0=0 from rfl,Int.zero_mul,Int.add_zero,wv,lX,hm,zDL,Nat.zero_add]
 refine W.loop_c (fun s:List Int×List Int×Int=>∃ i:Nat,s.2.2=(i:Int) - 1/\Div (wv X) (wv y) s.1 s.2.1 (m0+1) m i) (fun s=>(s.2.2+1).toNat) ⟨m,rfl,hinit⟩ ?_
 rintro ⟨X1,out,_⟩ P ⟨i,rfl,hd⟩ hgo hbrk hout
 simp only at hd hgo |-
 have hlX:=hd.lX
 have hlo:=hd.lo
 have him:=hd.im
 unfold zAR.l2
 refine W.run_if (fun c=>?_) (fun c=>hbrk _ ?_)
 ·obtain ⟨j,rfl⟩:∃ j,i=j+1:=⟨i - 1,by omega⟩
  have e:((j+1:Nat):Int) - 1=(j:Int):=by omega
  rw [e,hyl,show (((j:Int)+((m0+1:Nat):Int)+1) - (j:Int)).toNat=m0+1+1 by omega,Int.toNat_natCast]
  have hwin:Win X1 y j (m0+1):=by
   refine ⟨hd.wX,wy,by omega,hyl,by omega,by simpa using htop,?_⟩
   rw [zDk]
   have h1:=hd.lt
   have h2:=hd.wX j
   omega
  refine W.req_i (by show _/\_;omega) (W.req_i (by show _/\_;omega) (W.req_i (by omega) (zGo hwin (by omega) ?_ ?_ fun q X' hw=>?_)))
  ·rw [zFD (show ((m0+1:Nat):Int) - 1=((m0+1 - 1:Nat):Int) by omega)]
  ·rw [zFD (show ((m0+1:Nat):Int) - 2=((m0+1 - 2:Nat):Int) by omega)]
  ·exact W.req_i (by omega) (hgo _ ⟨j,rfl,hd.step wy hyl hw⟩ (by simp only;omega))
 obtain rfl:i=0:=by omega
 have hval:=hd.val
 rw [show sv (gn X1) 0 0=0 from rfl,Int.pow_zero,Int.one_mul,Int.zero_add,Nat.sub_zero] at hval
 have hXv:wv X1=sv (gn X1) 0 (m0+1):=by
  rw [wv,hlX,Nat.add_comm m (m0+1),zDL,zGO (j:=0+(m0+1)) (fun k hk _=>hd.high k (by omega))]
  simp
 have hov:sv (gn out) 0 m=wv out:=zFH (by omega)
 have hR:wv X1=2 ^ n*(wv a - wv out*wv b):=by
  rw [hXv]
  rw [hov,vX,hV] at hval
  grind
 have hlt:=hd.lt
 rw [<- hXv,hR,hV] at hlt
 have hRlt:wv a - wv out*wv b<wv b:=by
  rw [Int.mul_comm] at hlt
  exact Int.lt_of_mul_lt_mul_right hlt (Int.le_of_lt hp)
 have hRge:0<=wv a - wv out*wv b:=by
  have h1:=zDi hd.wX
  rw [hR] at h1
  rcases Int.lt_or_le (wv a - wv out*wv b) 0 with c | c
  ·have:=Int.mul_neg_of_pos_of_neg hp c
   omega
  ·exact c
 have hbpos:0<wv b:=by omega
 obtain ⟨u1,u2⟩:=zDg hbpos (show wv a=wv out*wv b+(wv a - wv out*wv b) by omega) hRge hRlt
 unfold zAR.j2
 refine zF1 hd.wX fun x tx wx vx lx=>?_
 refine zIY wx hn32 (by have:x.length<=X1.length:=lx;omega) (vx.trans hR) (Q:=fun z=>Wd (gn z)/\wv z=wv a - wv out*wv b) (fun z h1 h2=>⟨h1,h2⟩) fun z i hz=>?_
 unfold zAR.j3
 exact zBf hd.wo fun q t1 t2 t3 t4=>zBf hz.1 fun r s1 s2 s3 s4=>H q r t1 s1 t2 s2 (t3.trans u1) (s3.trans (hz.2.trans u2))
end
end Go.Proofs.Ytlmpoindlejefaa.E
