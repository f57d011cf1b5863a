/- The program's integers: quotient and rest of words. -/
import Derived.Test.YtgbmmbfminafnaaKM13
set_option linter.unusedVariables false
set_option linter.unusedSimpArgs false
namespace Go.Proofs.Ytgbmmbfminafnaa.E
open Go Go.RowKit
theorem shl32 {a:Int} {n:Nat} (ha:0<=a/\a<4294967296) (hn:n<32):ishl .u32 a n=(a*2 ^ n) % 4294967296:=by
 rw [ishl_n _ _ _ (by show n<=32;omega),wrap_u32]
theorem shr32 {a:Int} {n:Nat} (hn:n<32):ishr .u32 a ((32 - n:Nat):Int)=a*2 ^ n / 4294967296:=by
 rw [ishr_n _ _ _ (by show 32 - n<=32;omega)]
 have hs:=p2_split (show n<=32 by omega)
 rw [hs,Int.mul_comm a,Int.mul_ediv_mul_of_pos _ _ (p2_pos n)]
theorem or_shifted {a b:Int} {n:Nat} (ha:0<=a/\a<4294967296) (hb:0<=b/\b<4294967296) (hn:n<32):ior .u32 ((a*2 ^ n) % 4294967296) (b*2 ^ n / 4294967296)=(a*2 ^ n) % 4294967296+b*2 ^ n / 4294967296/\0<=(a*2 ^ n) % 4294967296+b*2 ^ n / 4294967296/\(a*2 ^ n) % 4294967296+b*2 ^ n / 4294967296<4294967296:=by
 obtain ⟨_,s2,s3,_,_,s6⟩:=shl_parts ha hn
 obtain ⟨_,_,_,t4,t5,_⟩:=shl_parts hb hn
 have h0:=Int.emod_nonneg (a*2 ^ n) (show (4294967296:Int)≠0 by decide)
 refine ⟨?_,by omega,by omega⟩
 rw [s3] at s6 |-
 exact ior_sum32 (Int.emod_nonneg _ (by have:=p2_pos (32 - n);omega)) t4 t5 (by omega)
structure Shl (a v:List Int) (n i:Nat):Prop where
 wd:Wd (gn v)
 high:∀ j,i<=j->gn v j=0
 val:sv (gn v) 0 i+4294967296 ^ i*(if i=0 then 0 else gn a (i - 1)*2 ^ n / 4294967296)=2 ^ n*sv (gn a) 0 i
theorem Shl.step {a v:List Int} {n i:Nat} (h:Shl a v n i) (wa:Wd (gn a)) (hn:n<32) (hi:i<v.length) {w:Int} (hw:w=(gn a i*2 ^ n) % 4294967296+(if i=0 then 0 else gn a (i - 1)*2 ^ n / 4294967296)) {v':List Int} (hv':∀ j,gn v' j=if i=j then w else gn v j):Shl a v' n (i+1):=by
 have hb:=or_shifted (wa i) (wa (i - 1)) hn
 have hb0:=or_shifted (wa i) (b:=0) (by omega) hn
 have hp:=p2_pos n
 refine ⟨fun j=>?_,fun j hj=>by rw [hv',if_neg (by omega)];exact h.high j (by omega),?_⟩
 ·rw [hv']
  split
  ·rw [hw]
   split
   ·have:=hb0.2;simpa using this
   ·exact hb.2
  ·exact h.wd j
 ·rw [sv,sv_congr (f:=gn v') (g:=gn v) (fun j _ hj=>by rw [hv',if_neg (by omega)]),hv',if_pos (by omega),if_neg (by omega),sv,bsucc,hw]
  have hval:=h.val
  simp only [Nat.add_sub_cancel,Nat.zero_add]
  have e:=Int.emod_add_mul_ediv (gn a i*2 ^ n) 4294967296
  generalize (if i=0 then (0:Int) else gn a (i - 1)*2 ^ n / 4294967296)=c at *
  generalize (4294967296:Int) ^ i=E at *
  generalize (gn a i*2 ^ n) % 4294967296=d0 at *
  generalize (gn a i*2 ^ n) / 4294967296=d1 at *
  grind
def NQuo (a b:List Int) (Q:List Int×List Int->Prop):Prop:=∀ q r,Wd (gn q)->Wd (gn r)->wv q=wv a / wv b->wv r=wv a % wv b->Q (q,r)
section
variable {a b:List Int} {Q:List Int×List Int->Prop}
theorem num_quo_one (wa:Wd (gn a)) (wb:Wd (gn b)) (hb:b.length=1) (tb:Tr b) (la:a.length<=1099511627776) (H:NQuo a b Q) :
  (W.bind (W.loop (fun (s:(List Int)×Int×Int)=>num_quoWords.l8 a b s.1 s.2.1 s.2.2) ((List.replicate (a.length:Int).toNat (0:Int)),0,((a.length:Int) - 1))) (Lp.on (fun s=>num_quoWords.j13 s.1 s.2.1) (fun r=>W.ret r))).run Q:=by
 obtain ⟨d,rfl⟩:∃ d,b= [d]:=by
  match b,hb with
  | [d],_=>exact ⟨d,rfl⟩
 have hd:=wb 0
 have ed:gn [d] 0=d:=rfl
 rw [ed] at hd
 have hd0:d≠0:=tb (by simp)
 rw [Int.toNat_natCast]
 refine W.loop_c (fun s:List Int×Int×Int=>∃ i m:Nat,s.2.2=(i:Int) - 1/\i+m=a.length/\s.1.length=a.length/\Wd (gn s.1)/\0<=s.2.1/\s.2.1<d/\sv (gn a) i m=sv (gn s.1) i m*d+s.2.1) (fun s=>(s.2.2+1).toNat) ⟨a.length,0,rfl,rfl,by simp,Wd.rep _,by simp,by simp only;omega,by simp [sv]⟩ ?_
 rintro ⟨out,rest,_⟩ P ⟨i,m,rfl,him,h1,h2,h3,h4,h5⟩ hgo hbrk hout
 simp only at h1 h2 h3 h4 h5 hgo |-
 unfold num_quoWords.l8
 refine W.run_if (fun c=>?_) (fun c=>hbrk _ ?_)
 ·obtain ⟨j,rfl⟩:∃ j,i=j+1:=⟨i - 1,by omega⟩
  have e:((j+1:Nat):Int) - 1=(j:Int):=by omega
  rw [e,gi_nat,show gi [d] 0=d from rfl,Int.toNat_natCast]
  have ha:=wa j
  rw [ior64_32 h3 (by omega) ha.1 ha.2,Int.tdiv_eq_ediv_of_nonneg (by omega),Int.tmod_eq_emod_of_nonneg (by omega)]
  have e1:=Int.emod_add_mul_ediv (rest*4294967296+gn a j) d
  have e2:=Int.emod_nonneg (rest*4294967296+gn a j) hd0
  have e3:=Int.emod_lt_of_pos (rest*4294967296+gn a j) (show 0<d by omega)
  have e4:(rest*4294967296+gn a j) / d<4294967296:=Int.ediv_lt_of_lt_mul (by omega) (by omega)
  have e5:0<=(rest*4294967296+gn a j) / d:=Int.ediv_nonneg (by omega) (by omega)
  rw [show (rest*4294967296+gn a j) / d % 4294967296=(rest*4294967296+gn a j) / d by omega]
  have hl:([d].length:Int)=1:=rfl
  refine W.req_i (by omega) (W.req_i (by omega) (W.req_i hd0 (W.req_i (by omega) (W.req_i (by omega) (W.req_i hd0 (hgo _ ⟨j,m+1,rfl,by omega,by simp [h1],h2.set ⟨e5,e4⟩,e2,e3,?_⟩ (by simp only;omega)))))))
  simp only
  rw [sv_cons,sv_cons,gn_set,if_pos ⟨rfl,by omega⟩,sv_congr (f:=gn (out.set j ((rest*4294967296+gn a j) / d))) (g:=gn out) (fun k hk _=>by rw [gn_set,if_neg (by omega)]),h5]
  grind
 ·obtain rfl:i=0:=by omega
  have hm:m=a.length:=by omega
  subst hm
  have hv:wv a=wv out*d+rest:=by
   show sv (gn a) 0 a.length=sv (gn out) 0 out.length*d+rest
   rw [h1];exact h5
  obtain ⟨u1,u2⟩:=divmod_unique (by omega) hv h3 h4
  unfold num_quoWords.j13
  simp only
  rw [show rest % 4294967296=rest by omega]
  exact H _ _ h2 (Wd.one ⟨h3,by omega⟩) (by rw [wv_sing];exact u1) (by rw [wv_sing,wv_sing];exact u2)
theorem num_quo_back {x:List Int} {n k:Nat} {R:Int} {out:List Int} (wx:Wd (gn x)) (hn:n<32) (hk:k<x.length) (hl:x.length<=1099511627776) (hz:gn x k=0) (hv:sv (gn x) 0 k=2 ^ n*R) {y:List Int} (hy:y.length=k) (hk0:0<k) (H:∀ z,Wd (gn z)->wv z=R->Q (out,z)):(num_quoWords.j4 y (n:Int) x out).run Q:=by
 have hp:=p2_pos n
 have hp3:=p2_pos (32 - n)
 have hs:=p2_split (show n<=32 by omega)
 unfold num_quoWords.j4
 rw [hy,Int.toNat_natCast]
 have hn64:(n:Int) % 18446744073709551616=n:=by omega
 have hn32:(32 - (n:Int)) % 18446744073709551616=((32 - n:Nat):Int):=by omega
 refine W.req_i (by omega) ?_
 refine W.loop_c (fun s:List Int×Int=>∃ i:Nat,s.2=i/\i<=k/\s.1.length=k/\Wd (gn s.1)/\2 ^ n*sv (gn s.1) 0 i=sv (gn x) 0 i - gn x 0 % 2 ^ n+4294967296 ^ i*(gn x i % 2 ^ n)) (fun s=>k - s.2.toNat) ⟨0,rfl,Nat.zero_le _,by simp,Wd.rep _,by simp [sv];omega⟩ ?_
 rintro ⟨z,_⟩ P ⟨i,rfl,hi,h1,h2,h4⟩ hgo hbrk hout
 simp only at h1 h2 h4 hgo |-
 have hx:=wx i
 have hx1:=wx (i+1)
 unfold num_quoWords.l1
 rw [hn64,hn32,hy,gi_nat,Int.toNat_natCast,gi_at (show (i:Int)+1=((i+1:Nat):Int) by omega),ishr_n _ _ _ (show n<=IntKind.u32.bits by show n<=32;omega)]
 have q0:0<=gn x i / 2 ^ n:=Int.ediv_nonneg hx.1 (Int.le_of_lt hp)
 have q1:gn x i / 2 ^ n<2 ^ (32 - n):=Int.ediv_lt_of_lt_mul hp (by rw [Int.mul_comm,<- hs];exact hx.2)
 have m0:=Int.emod_nonneg (gn x (i+1)) (show (2:Int) ^ n≠0 by omega)
 have m1:=Int.emod_lt_of_pos (gn x (i+1)) hp
 have m2:(gn x (i+1) % 2 ^ n+1)*2 ^ (32 - n)<=2 ^ n*2 ^ (32 - n):=Int.mul_le_mul_of_nonneg_right (by omega) (Int.le_of_lt hp3)
 rw [Int.add_mul,Int.one_mul,<- hs] at m2
 have m3:0<=(gn x (i+1) % 2 ^ n)*2 ^ (32 - n):=Int.mul_nonneg m0 (Int.le_of_lt hp3)
 have next:i<k->∀ z',z'.length=k->(∀ j,gn z' j=if i=j then gn x i / 2 ^ n+(gn x (i+1) % 2 ^ n)*2 ^ (32 - n) else gn z j)->P (.go (z',(i:Int)+1)):=by
  intro hlt z' a1 a2
  refine hgo _ ⟨i+1,by simp,by omega,a1,fun j=>?_,?_⟩ (by simp;omega)
  ·show 0<=gn z' j/\gn z' j<4294967296
   rw [a2]
   split
   ·omega
   ·exact h2 j
  ·simp only
   rw [sv,Nat.zero_add,sv_congr (f:=gn z') (g:=gn z) (fun j _ hj=>by rw [a2,if_neg (by omega)]),a2,if_pos rfl,sv,Nat.zero_add,bsucc]
   have e1:=Int.emod_add_mul_ediv (gn x i) (2 ^ n)
   have e2:(4294967296:Int)*(gn x (i+1) % 2 ^ n)=2 ^ n*((gn x (i+1) % 2 ^ n)*2 ^ (32 - n)):=by rw [hs];grind
   have e3:4294967296*4294967296 ^ i*(gn x (i+1) % 2 ^ n)=4294967296 ^ i*(2 ^ n*((gn x (i+1) % 2 ^ n)*2 ^ (32 - n))):=by rw [<- e2];grind
   rw [e3]
   generalize (4294967296:Int) ^ i=E at *
   generalize (2:Int) ^ n=p at *
   generalize (gn x (i+1) % p)*2 ^ (32 - n)=w at *
   generalize gn x i / p=d at *
   generalize gn x i % p=mm at *
   grind
 refine W.run_if (fun c=>W.req_i (by omega) (W.req_i (by omega) (W.run_if (fun c2=>?_) (fun c2=>?_)))) (fun c=>hbrk _ ?_)
 ·rw [List.length_set,gi_nat,gn_set,if_pos ⟨rfl,by omega⟩]
  have e2:ishl .u32 (gn x (i+1)) ((32 - n:Nat):Int)=(gn x (i+1) % 2 ^ n)*2 ^ (32 - n):=by
   rw [shl32 hx1 (by omega)]
   have hs':(4294967296:Int)=2 ^ (32 - n)*2 ^ n:=by rw [hs,Int.mul_comm]
   rw [hs',Int.mul_comm (gn x (i+1)),Int.mul_emod_mul_of_pos _ _ hp3,Int.mul_comm]
  rw [e2,ior_comm,ior_sum32 m0 q0 q1 (by omega)]
  refine W.req_i (by omega) (W.req_i (by omega) (W.req_i (by omega) (next (by omega) _ (by simp [h1]) fun j=>?_)))
  rw [gn_set,gn_set]
  simp only [List.length_set]
  by_cases hj:i=j
  ·subst hj;rw [if_pos ⟨rfl,by omega⟩,if_pos rfl,Int.add_comm]
  ·rw [if_neg (by omega),if_neg (by omega),if_neg hj]
 ·refine next (by omega) _ (by simp [h1]) fun j=>?_
  have hn0:n=0:=by omega
  subst hn0
  rw [gn_set]
  by_cases hj:i=j
  ·subst hj;rw [if_pos ⟨rfl,by omega⟩,if_pos rfl];simp
  ·rw [if_neg (by omega),if_neg hj]
 ·obtain rfl:i=k:=by omega
  refine H z h2 ?_
  have hx0:gn x 0 % 2 ^ n=0:=by
   have e:sv (gn x) 0 i % 2 ^ n=gn x 0 % 2 ^ n:=by
    obtain ⟨m,hm⟩:∃ m,i=m+1:=⟨i - 1,by omega⟩
    rw [hm,sv_cons,hs,Int.mul_assoc,Int.add_mul_emod_self_left]
   rw [<- e,hv,Int.mul_emod_right]
  rw [hx0,hz,hv] at h4
  simp at h4
  have h5:2 ^ n*wv z=2 ^ n*R:=by rw [wv,h1,h4]
  exact Int.eq_of_mul_eq_mul_left (by omega) h5
end
end Go.Proofs.Ytgbmmbfminafnaa.E
