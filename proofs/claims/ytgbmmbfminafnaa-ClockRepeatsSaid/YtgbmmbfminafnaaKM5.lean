/- What the reference computes with words: bits, shifts, one word as divisor. -/
import Derived.Test.YtgbmmbfminafnaaKM3
set_option linter.unusedVariables false
set_option linter.unusedSimpArgs false
namespace Go.Proofs.Ytgbmmbfminafnaa.E
open Go Go.RowKit
theorem len8:∀ i:Fin 256,(i.1=0/\bix str_0 (i.1:Int)=0)\/∃ t:Fin 9,bix str_0 (i.1:Int)=t.1/\1<=t.1/\2 ^ (t.1 - 1)<=i.1/\i.1<2 ^ t.1:=by decide +kernel
def LZ (x:Int) (r:Nat):Prop:=r<32/\2147483648<=x*2 ^ r/\x*2 ^ r<4294967296
theorem bits_Len32_run {x:Int} {Q:Int->Prop} (h0:0<x) (h1:x<4294967296) (H:∀ r:Nat,LZ x r->Q (32 - r)):(bits_Len32.f x).run Q:=by
 have s16:ishr .u32 x 16=x / 65536:=ishr_n .u32 x 16 (by decide)
 have last:∀ (p:Int) (s:Nat),0<p->p<256->(s=0/\p=x\/s=8/\p=x / 256\/s=16/\p=x / 65536\/s=24/\p=x / 16777216)->(bits_Len32.j2 p s).run Q:=by
  intro p s hp0 hp1 hs
  obtain ⟨i,hi,rfl⟩:∃ i:Nat,i<256/\p=i:=⟨p.toNat,by omega,by omega⟩
  have hm:(i:Int) % 256=i:=by omega
  unfold bits_Len32.j2
  rw [hm]
  rcases len8 ⟨i,hi⟩ with ⟨h,_⟩ | ⟨⟨t,ht⟩,h2,h3,h4,h5⟩
  ·simp only at h;omega
  ·simp only at h2 h3 h4 h5
   rw [h2]
   refine W.req_i (by rw [show str_0.size=256 by decide +kernel];omega) (W.req_i (by show _/\_;omega) ?_)
   have e:(s:Int)+(t:Int)=32 - ((32 - s - t:Nat):Int):=by omega
   rw [W.ret_r,e]
   refine H _ ⟨by omega,?_⟩
   have:t=1\/t=2\/t=3\/t=4\/t=5\/t=6\/t=7\/t=8:=by omega
   rcases hs with ⟨rfl,hs⟩ | ⟨rfl,hs⟩ | ⟨rfl,hs⟩ | ⟨rfl,hs⟩ <;> rcases this with rfl | rfl | rfl | rfl | rfl | rfl | rfl | rfl <;> simp only [Nat.reducePow,Nat.reduceSub,Int.reducePow] at h4 h5 |- <;> omega
 unfold bits_Len32.f bits_Len32.j1
 rw [s16]
 have s8:∀ y,ishr .u32 y 8=y / 256:=fun y=>ishr_n .u32 y 8 (by decide)
 rw [s8,s8]
 refine W.run_if (fun c=>W.run_if (fun c2=>W.req_i (by show _/\_;omega) (last _ 24 (by omega) (by omega) (by omega))) (fun c2=>last _ 16 (by omega) (by omega) (by omega))) (fun c=>W.run_if (fun c2=>W.req_i (by show _/\_;omega) (last _ 8 (by omega) (by omega) (by omega))) (fun c2=>last _ 0 (by omega) (by omega) (by omega)))
theorem bits_LeadingZeros32_run {x:Int} {Q:Int->Prop} (h0:0<x) (h1:x<4294967296) (H:∀ r:Nat,LZ x r->Q r):(bits_LeadingZeros32.f x).run Q:=by
 refine bits_Len32_run h0 h1 fun r hr=>W.req_i (by have:=hr.1;show _/\_;omega) ?_
 rw [W.ret_r,show (32:Int) - (32 - r)=r by omega]
 exact H r hr
theorem p2_pos (n:Nat):(0:Int)<2 ^ n:=Int.pow_pos (by decide)
theorem p2_le {n m:Nat} (h:n<=m):(2:Int) ^ n<=2 ^ m:=by
 obtain ⟨k,rfl⟩:=Nat.exists_eq_add_of_le h
 rw [Int.pow_add]
 have h1:=p2_pos n
 have h2:=p2_pos k
 have:(2:Int) ^ n*1<=2 ^ n*2 ^ k:=Int.mul_le_mul_of_nonneg_left (by omega) (Int.le_of_lt h1)
 omega
theorem p2_split {n:Nat} (h:n<=32):(4294967296:Int)=2 ^ n*2 ^ (32 - n):=by
 rw [<- Int.pow_add,show n+(32 - n)=32 by omega]
 decide
theorem shl_parts {a:Int} {n:Nat} (ha:0<=a/\a<4294967296) (hn:n<32):ishl .u64 a n=a*2 ^ n/\0<=a*2 ^ n/\(a*2 ^ n) % 4294967296=(a % 2 ^ (32 - n))*2 ^ n/\0<=a*2 ^ n / 4294967296/\a*2 ^ n / 4294967296<2 ^ n/\(a*2 ^ n) % 4294967296+2 ^ n<=4294967296:=by
 have h1:=p2_pos n
 have h2:=p2_le (show n<=31 by omega)
 have e31:(2:Int) ^ 31=2147483648:=by decide
 rw [e31] at h2
 have h3:0<=a*2 ^ n:=Int.mul_nonneg ha.1 (Int.le_of_lt h1)
 have h4:a*2 ^ n<=4294967295*2147483648:=Int.mul_le_mul (by omega) h2 (Int.le_of_lt h1) (by decide)
 have hs:=p2_split (show n<=32 by omega)
 have h5:(a*2 ^ n) % 4294967296=(a % 2 ^ (32 - n))*2 ^ n:=by
  rw [hs,Int.mul_comm a,Int.mul_emod_mul_of_pos _ _ h1,Int.mul_comm]
 refine ⟨?_,h3,h5,Int.ediv_nonneg h3 (by decide),Int.ediv_lt_of_lt_mul (by decide) ?_,?_⟩
 ·rw [ishl_n _ _ _ (by show n<=64;omega),wrap_u64]
  omega
 ·rw [Int.mul_comm]
  have:=Int.mul_lt_mul_of_pos_left ha.2 h1
  exact this
 ·rw [h5]
  have h6:=p2_pos (32 - n)
  have h7:=Int.emod_lt_of_pos a h6
  have h8:(a % 2 ^ (32 - n)+1)*2 ^ n<=2 ^ (32 - n)*2 ^ n:=Int.mul_le_mul_of_nonneg_right (by omega) (Int.le_of_lt h1)
  rw [Int.add_mul,Int.one_mul] at h8
  have h9:(2:Int) ^ (32 - n)*2 ^ n=4294967296:=by rw [hs,Int.mul_comm]
  omega
theorem ref01_shifted_run {a:List Int} {n:Nat} {Q:List Int->Prop} (wa:Wd (gn a)) (hn:n<32) (la:a.length<=1099511627776) (H:∀ r,Wd (gn r)->r.length=a.length+1->wv r=wv a*2 ^ n->Q r):(ref01_shifted.f a n).run Q:=by
 unfold ref01_shifted.f
 refine W.req_i (by omega) ?_
 have hp:=p2_pos n
 refine W.loop_c (fun s:List Int×Int=>∃ i:Nat,s.2=i/\i<=a.length/\s.1.length=a.length+1/\Wd (gn s.1)/\gn s.1 i<2 ^ n/\(∀ j,i<j->gn s.1 j=0)/\sv (gn s.1) 0 (i+1)=sv (gn a) 0 i*2 ^ n) (fun s=>a.length - s.2.toNat) ⟨0,rfl,Nat.zero_le _,by simp,Wd.rep _,by rw [gn_rep];exact hp,fun j _=>gn_rep _ _,by rw [sv_zero (fun j _ _=>gn_rep _ _)];simp [sv]⟩ ?_
 rintro ⟨out,_⟩ P ⟨i,rfl,hi,h1,h2,h3,h4,h5⟩ hgo hbrk hout
 simp only at h1 h2 h3 h4 h5 hgo |-
 unfold ref01_shifted.l1
 refine W.run_if (fun c=>?_) (fun c=>hbrk _ ?_)
 ·obtain ⟨s1,s2,s3,s4,s5,s6⟩:=shl_parts (wa i) hn
  rw [gi_nat,gi_nat,s1,ishr64_32]
  have e1:((i:Int)+1).toNat=i+1:=by omega
  have ho:=h2 i
  have hor:ior .u32 (gn out i) ((gn a i*2 ^ n) % 4294967296)=gn out i+(gn a i*2 ^ n) % 4294967296:=by
   rw [ior_comm,s3,ior_sum32 (Int.emod_nonneg _ (by have:=p2_pos (32 - n);omega)) ho.1 h3 (by rw [<- s3];omega),Int.add_comm]
  rw [hor,e1,Int.toNat_natCast]
  have hq:(gn a i*2 ^ n / 4294967296) % 4294967296=gn a i*2 ^ n / 4294967296:=by
   have:=p2_le (show n<=31 by omega)
   have e31:(2:Int) ^ 31=2147483648:=by decide
   omega
  rw [hq]
  have hb31:=p2_le (show n<=31 by omega)
  have e31:(2:Int) ^ 31=2147483648:=by decide
  have hx:=Int.emod_nonneg (gn a i*2 ^ n) (show (4294967296:Int)≠0 by decide)
  refine W.req_i (by omega) (W.req_i (by omega) (W.req_i (by omega) (W.req_i (by rw [List.length_set];omega) (hgo _ ⟨i+1,by simp,by omega,by simp [h1],?_,?_,fun j hj=>?_,?_⟩ (by simp;omega)))))
  ·exact (h2.set (by omega)).set (by omega)
  ·rw [gn_set,if_pos ⟨rfl,by rw [List.length_set];omega⟩];exact s5
  ·rw [gn_set,if_neg (by omega),gn_set,if_neg (by omega)];exact h4 j (by omega)
  ·rw [sv,Nat.zero_add,gn_set,if_pos ⟨rfl,by rw [List.length_set];omega⟩,sv,Nat.zero_add,gn_set,if_neg (by omega),gn_set,if_pos ⟨rfl,by omega⟩,sv_congr (g:=gn out) (fun j _ hj=>by rw [gn_set,if_neg (by omega),gn_set,if_neg (by omega)]),bsucc,sv,Nat.zero_add]
   have h6:=Int.emod_add_mul_ediv (gn a i*2 ^ n) 4294967296
   rw [sv,Nat.zero_add] at h5
   grind
 ·obtain rfl:i=a.length:=by omega
  refine H _ h2 h1 ?_
  show wv out=_
  rw [wv,h1]
  exact h5
end Go.Proofs.Ytgbmmbfminafnaa.E
