/- What the reference computes with words: bits, shifts, one word as divisor. -/
import Derived.Test.YtgbmmbfminafnaaKM3
set_option linter.unusedVariables false
set_option linter.unusedSimpArgs false
namespace Go.Proofs.Ytgbmmbfminafnaa.E
open Go Go.RowKit
theorem len8:∀ i:Fin 256,(i.1=0/\bix str_0 (i.1:Int)=0)\/∃ t:Fin 9,bix str_0 (i.1:Int)=t.1/\1<=t.1/\2 ^ (t.1 - 1)<=i.1/\i.1<2 ^ t.1:=by decide +kernel
def LZ (x:Int) (r:Nat):Prop:=r<32/\2147483648<=x*2 ^ r/\x*2 ^ r<4294967296
theorem bits_Len32_run {x:Int} {Q:Int->Prop} (h0:0<x) (h1:x<4294967296) (H:∀ r:Nat,LZ x r->Q (32 - r)):(bits_Len32.f x).run Q:=by
 have s16:ishr .u32 x 16=x / 65536:=ishr_n .u32 x 16 (by decide)
 have last:∀ (p:Int) (s:Nat),0<p->p<256->(s=0/\p=x\/s=8/\p=x / 256\/s=16/\p=x / 65536\/s=24/\p=x / 16777216)->(bits_Len32.j2 p s).run Q:=by
  intro p s hp0 hp1 hs
  obtain ⟨i,hi,rfl⟩:∃ i:Nat,i<256/\p=i:=⟨p.toNat,by omega,by omega⟩
  have hm:(i:Int) % 256=i:=by omega
  unfold bits_Len32.j2
  rw [hm]
  rcases len8 ⟨i,hi⟩ with ⟨h,_⟩ | ⟨⟨t,ht⟩,h2,h3,h4,h5⟩
  ·simp only at h;omega
  ·simp only at h2 h3 h4 h5
   rw [h2]
   refine W.req_i (by rw [show str_0.size=256 by decide +kernel];omega) (W.req_i (by show _/\_;omega) ?_)
   have e:(s:Int)+(t:Int)=32 - ((32 - s - t:Nat):Int):=by omega
   rw [W.ret_r,e]
   refine H _ ⟨by omega,?_⟩
   have:t=1\/t=2\/t=3\/t=4\/t=5\/t=6\/t=7\/t=8:=by omega
   rcases hs with ⟨rfl,hs⟩ | ⟨rfl,hs⟩ | ⟨rfl,hs⟩ | ⟨rfl,hs⟩ <;> rcases this with rfl | rfl | rfl | rfl | rfl | rfl | rfl | rfl <;> simp only [Nat.reducePow,Nat.reduceSub,Int.reducePow] at h4 h5 |- <;> omega
 unfold bits_Len32.f bits_Len32.j1
 rw [s16]
 have s8:∀ y,ishr .u32 y 8=y / 256:=fun y=>ishr_n .u32 y 8 (by decide)
 rw [s8,s8]
 refine W.run_if (fun c=>W.run_if (fun c2=>W.req_i (by show _/\_;omega) (last _ 24 (by omega) (by omega) (by omega))) (fun c2=>last _ 16 (by omega) (by omega) (by omega))) (fun c=>W.run_if (fun c2=>W.req_i (by show _/\_;omega) (last _ 8 (by omega) (by omega) (by omega))) (fun c2=>last _ 0 (by omega) (by omega) (by omega)))
theorem bits_LeadingZeros32_run {x:Int} {Q:Int->Prop} (h0:0<x) (h1:x<4294967296) (H:∀ r:Nat,LZ x r->Q r):(bits_LeadingZeros32.f x).run Q:=by
 refine bits_Len32_run h0 h1 fun r hr=>W.req_i (by have:=hr.1;show _/\_;omega) ?_
 rw [W.ret_r,show (32:Int) - (32 - r)=r by omega]
 exact H r hr
theorem p2_pos (n:Nat):(0:Int)<2 ^ n:=Int.pow_pos (by decide)
theorem p2_le {n m:Nat} (h:n<=m):(2:Int) ^ n<=2 ^ m:=by
 obtain ⟨k,rfl⟩:=Nat.exists_eq_add_of_le h
 rw [Int.pow_add]
 have h1:=p2_pos n
 have h2:=p2_pos k
 have:(2:Int) ^ n*1<=2 ^ n*2 ^ k:=Int.mul_le_mul_of_nonneg_left (by omega) (Int.le_of_lt h1)
 omega
theorem p2_split {n:Nat} (h:n<=32):(4294967296:Int)=2 ^ n*2 ^ (32 - n):=by
 rw [<- Int.pow_add,show n+(32 - n)=32 by omega]
 decide
theorem shl_parts {a:Int} {n:Nat} (ha:0<=a/\a<4294967296) (hn:n<32):ishl .u64 a n=a*2 ^ n/\0<=a*2 ^ n/\(a*2 ^ n) % 4294967296=(a % 2 ^ (32 - n))*2 ^ n/\0<=a*2 ^ n / 4294967296/\a*2 ^ n / 4294967296<2 ^ n/\(a*2 ^ n) % 4294967296+2 ^ n<=4294967296:=by
 have h1:=p2_pos n
 have h2:=p2_le (show n<=31 by omega)
 have e31:(2:Int) ^ 31=2147483648:=by decide
 rw [e31] at h2
 have h3:0<=a*2 ^ n:=Int.mul_nonneg ha.1 (Int.le_of_lt h1)
 have h4:a*2 ^ n<=4294967295*2147483648:=Int.mul_le_mul (by omega) h2 (Int.le_of_lt h1) (by decide)
 have hs:=p2_split (show n<=32 by omega)
 have h5:(a*2 ^ n) % 4294967296=(a % 2 ^ (32 - n))*2 ^ n:=by
  rw [hs,Int.mul_comm a,Int.mul_emod_mul_of_pos _ _ h1,Int.mul_comm]
 refine ⟨?_,h3,h5,Int.ediv_nonneg h3 (by decide),Int.ediv_lt_of_lt_mul (by decide) ?_,?_⟩
 ·rw [ishl_n _ _ _ (by show n<=64;omega),wrap_u64]
  omega
 ·rw [Int.mul_comm]
  have:=Int.mul_lt_mul_of_pos_left ha.2 h1
  exact this
 ·rw [h5]
  have h6:=p2_pos (32 - n)
  have h7:=Int.emod_lt_of_pos a h6
  have h8:(a % 2 ^ (32 - n)+1)*2 ^ n<=2 ^ (32 - n)*2 ^ n:=Int.mul_le_mul_of_nonneg_right (by omega) (Int.le_of_lt h1)
  rw [Int.add_mul,Int.one_mul] at h8
  have h9:(2:Int) ^ (32 - n)*2 ^ n=4294967296:=by rw [hs,Int.mul_comm]
  omega
end Go.Proofs.Ytgbmmbfminafnaa.E
