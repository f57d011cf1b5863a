/- Joined. -/
import Derived.Test.YtgbmmbfminafnaaKM6
set_option linter.unusedVariables false
set_option linter.unusedSimpArgs false
namespace Go.Proofs.Ytgbmmbfminafnaa.E
open Go Go.RowKit
theorem Wd.two {x y:Int} (hx:0<=x/\x<4294967296) (hy:0<=y/\y<4294967296):Wd (gn [x,y]):=Wd.of (by
 intro z hz
 simp only [List.mem_cons,List.not_mem_nil,or_false] at hz
 rcases hz with rfl | rfl
 ·exact hx
 ·exact hy)
theorem divmod_unique {a b q r:Int} (hb:0<b) (h:a=q*b+r) (h0:0<=r) (h1:r<b):q=a / b/\r=a % b:=by
 have:=Int.emod_add_mul_ediv a b
 exact quo_unique hb h h0 h1 (q':=a / b) (r':=a % b) (by rw [Int.mul_comm (a / b)];omega) (Int.emod_nonneg a (by omega)) (Int.emod_lt_of_pos a hb)
section
variable {a b:List Int} {Q:List Int×List Int->Prop}
end
structure Div (A V:Int) (X out:List Int) (k m i:Nat):Prop where
 lX:X.length=m+k
 lo:out.length=m
 wX:Wd (gn X)
 wo:Wd (gn out)
 im:i<=m
 high:∀ j,i+k<=j->gn X j=0
 lt:sv (gn X) i k<V
 val:A=sv (gn X) 0 i+4294967296 ^ i*(sv (gn X) i k+sv (gn out) i (m - i)*V)
theorem Div.step {A:Int} {y X X' out:List Int} {k m i:Nat} {q:Int} (h:Div A (wv y) X out k m (i+1)) (wy:Wd (gn y)) (ky:y.length=k) (w:Wout X X' y i k q):Div A (wv y) X' (out.set i q) k m i:=by
 have him:=h.im
 have hVk:wv y<4294967296 ^ k:=by have:=wv_lt wy;rwa [ky] at this
 have hzero:gn X' (i+k)=0:=by
  have h1:=w.lt
  rw [sv] at h1
  have h2:=sv_nonneg w.wd i k
  have h3:=w.wd (i+k)
  rcases Int.lt_or_le 0 (gn X' (i+k)) with c | c
  ·have:4294967296 ^ k*1<=4294967296 ^ k*gn X' (i+k):=Int.mul_le_mul_of_nonneg_left (by omega) (Int.le_of_lt (bpos k))
   omega
  ·omega
 have hsv:sv (gn X') i (k+1)=sv (gn X') i k:=by rw [sv,hzero,Int.mul_zero,Int.add_zero]
 refine ⟨by rw [w.len];exact h.lX,by rw [List.length_set];exact h.lo,w.wd,h.wo.set ⟨w.q0,w.q1⟩,by omega,fun j hj=>?_,by rw [<- hsv];exact w.lt,?_⟩
 ·rcases Nat.eq_or_lt_of_le hj with e | e
  ·rw [<- e];exact hzero
  ·rw [w.high j (by omega)];exact h.high j (by omega)
 ·have hval:=h.val
  have hw:=w.val
  rw [hsv,sv_cons] at hw
  rw [sv,Nat.zero_add,bsucc] at hval
  obtain ⟨d,hd⟩:∃ d,m - i=d+1:=⟨m - i - 1,by omega⟩
  have hd':m - (i+1)=d:=by omega
  rw [hd'] at hval
  rw [hd,sv_cons,gn_set,if_pos ⟨rfl,by rw [h.lo];omega⟩,sv_congr (f:=gn (out.set i q)) (g:=gn out) (fun j hj _=>by rw [gn_set,if_neg (by omega)]),sv_congr (f:=gn X') (g:=gn X) (j:=0) (fun j _ hj=>w.low j (by omega)),hval]
  generalize (4294967296:Int) ^ i=E at *
  grind
section
variable {a b:List Int} {Q:List Int×List Int->Prop}
end
end Go.Proofs.Ytgbmmbfminafnaa.E
namespace Go.Proofs.Ytgbmmbfminafnaa.E
open Go Go.RowKit
structure WRep (z:ref01_whole) (n:Int):Prop where
 wd:Wd (gn z.d)
 tr:Tr z.d
 val:n=if z.minus=true then - wv z.d else wv z.d
 pos:z.minus=true->z.d≠[]
theorem WRep.abs {z:ref01_whole} {n:Int} (h:WRep z n):wv z.d=n.natAbs:=by
 have h0:=wv_nonneg h.wd
 rw [h.val]
 split <;> omega
theorem WRep.neg_iff {z:ref01_whole} {n:Int} (h:WRep z n):z.minus=true ↔ n<0:=by
 have h0:=wv_nonneg h.wd
 constructor
 ·intro hm
  have h1: ¬ wv z.d=0:=fun e=>h.pos hm ((h.tr.zero h.wd).1 e)
  rw [h.val,if_pos hm]
  omega
 ·intro hn
  rcases Bool.eq_false_or_eq_true z.minus with e | e
  ·exact e
  ·rw [h.val,e,if_neg (by simp)] at hn
   omega
theorem WRep.nil_iff {z:ref01_whole} {n:Int} (h:WRep z n):z.d= [] ↔ n=0:=by
 rw [<- h.tr.zero h.wd,h.abs]
 omega
theorem b_p2 (i:Nat):(4294967296:Int) ^ i=2 ^ (32*i):=by
 rw [Int.pow_mul]
 rfl
theorem Tr.bits {l:List Int} (ht:Tr l) (h:Wd (gn l)) {n:Nat} (hn:wv l=n) {s:Nat} (hs:n<2 ^ s):l.length<=s / 32+1:=by
 by_cases h0:l= []
 ·rw [h0];exact Nat.zero_le _
 ·have h1:=ht.ge h h0
  rw [hn,b_p2] at h1
  have h2:2 ^ (32*(l.length - 1))<=n:=by
   have:((2 ^ (32*(l.length - 1)):Nat):Int)<=(n:Int):=by simpa using h1
   exact Int.ofNat_le.1 this
  have h3:32*(l.length - 1)<s:=(Nat.pow_lt_pow_iff_right (by decide)).1 (Nat.lt_of_le_of_lt h2 hs)
  omega
theorem WRep.len {z:ref01_whole} {n:Int} (h:WRep z n) {s:Nat} (hs:n.natAbs<2 ^ s):z.d.length<=s / 32+1:=h.tr.bits h.wd h.abs hs
theorem bits_mul {a b:Int} {s t:Nat} (ha:a.natAbs<2 ^ s) (hb:b.natAbs<2 ^ t):(a*b).natAbs<2 ^ (s+t):=by
 rw [Int.natAbs_mul,Nat.pow_add]
 exact Nat.mul_lt_mul'' ha hb
theorem bits_add {a b:Int} {s:Nat} (ha:a.natAbs<2 ^ s) (hb:b.natAbs<2 ^ s):(a+b).natAbs<2 ^ (s+1):=by
 have:=Int.natAbs_add_le a b
 rw [Nat.pow_succ]
 omega
theorem bits_mono {n s t:Nat} (h:n<2 ^ s) (hst:s<=t):n<2 ^ t:=Nat.lt_of_lt_of_le h (Nat.pow_le_pow_right (by decide) hst)
section
variable {a b:ref01_whole} {x y:Int} {Q:ref01_whole->Prop}
end
end Go.Proofs.Ytgbmmbfminafnaa.E
namespace Go.Proofs.Ytgbmmbfminafnaa.E
open Go Go.RowKit
def Sz (s:Nat) (x:Rat):Prop:=x.num.natAbs<2 ^ s/\x.den<2 ^ s
def Ok (x:Rat):Prop:=∃ s:Nat,s<=8796093022208/\Sz s x
theorem Sz.mono {s t:Nat} {x:Rat} (h:Sz s x) (hst:s<=t):Sz t x:=⟨bits_mono h.1 hst,bits_mono h.2 hst⟩
theorem Sz.ok {s:Nat} {x:Rat} (h:Sz s x) (hs:s<=8796093022208):Ok x:=⟨s,hs,h⟩
theorem rat_over (n d:Int) (hd:d≠0):Rat.divInt n d=Rat.divInt (if d<0 then -n else n) (d.natAbs:Int):=by
 split
 ·rw [show (d.natAbs:Int)= -d by omega,Rat.neg_divInt_neg]
 ·rw [show (d.natAbs:Int)=d by omega]
theorem over_num (n:Int) (d:Nat) (hd:d≠0):(Rat.divInt n d).num=n / (Nat.gcd n.natAbs d:Nat):=by
 rw [Rat.num_divInt,Int.gcd]
 rw [Int.sign_eq_one_of_pos (by omega),Int.one_mul,Int.natAbs_natCast,Nat.gcd_comm]
theorem over_den (n:Int) (d:Nat) (hd:d≠0):(Rat.divInt n d).den=d / Nat.gcd n.natAbs d:=by
 rw [Rat.den_divInt,if_neg (by omega),Int.gcd,Int.natAbs_natCast,Nat.gcd_comm]
theorem Sz.over {n d:Int} {s:Nat} (hd:d≠0) (hn:n.natAbs<2 ^ s) (hd':d.natAbs<2 ^ s):Sz s (Rat.divInt n d):=by
 rw [rat_over n d hd]
 have h0:d.natAbs≠0:=by omega
 have hg:=Nat.gcd_pos_of_pos_right (if d<0 then -n else n).natAbs (Nat.pos_of_ne_zero h0)
 constructor
 ·rw [over_num _ _ h0]
  refine Nat.lt_of_le_of_lt ?_ hn
  rw [Int.natAbs_ediv_of_dvd (Int.ofNat_dvd_left.2 (Nat.gcd_dvd_left _ _)),Int.natAbs_natCast]
  refine Nat.le_trans (Nat.div_le_self _ _) ?_
  split <;> omega
 ·rw [over_den _ _ h0]
  exact Nat.lt_of_le_of_lt (Nat.div_le_self _ _) hd'
theorem add_over (x y:Rat):x+y=Rat.divInt (x.num*y.den+y.num*x.den) ((x.den:Int)*y.den):=by
 rw [Rat.add_def',<- Rat.divInt_ofNat]
 simp
theorem mul_over (x y:Rat):x*y=Rat.divInt (x.num*y.num) ((x.den:Int)*y.den):=by
 rw [Rat.mul_def',<- Rat.divInt_ofNat]
 simp
theorem div_over (x y:Rat):x / y=Rat.divInt (x.num*y.den) ((x.den:Int)*y.num):=by
 have h1:=Rat.num_divInt_den x
 have h2:=Rat.num_divInt_den y
 rw [Rat.div_def]
 conv=>lhs;rw [<- h1,<- h2,Rat.inv_divInt,Rat.divInt_mul_divInt]
theorem den_ne (x:Rat):(x.den:Int)≠0:=by have:=x.den_pos;omega
theorem Sz.add {x y:Rat} {s t:Nat} (hx:Sz s x) (hy:Sz t y):Sz (s+t+1) (x+y):=by
 rw [add_over]
 refine Sz.over (Int.mul_ne_zero (den_ne x) (den_ne y)) (bits_add (bits_mul hx.1 (by simpa using hy.2)) ?_) (bits_mono (bits_mul (by simpa using hx.2) (by simpa using hy.2)) (by omega))
 rw [Nat.add_comm s t]
 exact bits_mul hy.1 (by simpa using hx.2)
theorem Sz.neg {x:Rat} {s:Nat} (h:Sz s x):Sz s (-x):=by
 refine ⟨?_,by simpa using h.2⟩
 rw [Rat.neg_num,Int.natAbs_neg];exact h.1
theorem Sz.sub {x y:Rat} {s t:Nat} (hx:Sz s x) (hy:Sz t y):Sz (s+t+1) (x - y):=by
 rw [Rat.sub_eq_add_neg];exact hx.add hy.neg
theorem Sz.mul {x y:Rat} {s t:Nat} (hx:Sz s x) (hy:Sz t y):Sz (s+t) (x*y):=by
 rw [mul_over]
 exact Sz.over (Int.mul_ne_zero (den_ne x) (den_ne y)) (bits_mul hx.1 hy.1) (bits_mul (by simpa using hx.2) (by simpa using hy.2))
theorem Sz.div {x y:Rat} {s t:Nat} (hx:Sz s x) (hy:Sz t y) (h0:y≠0):Sz (s+t) (x / y):=by
 rw [div_over]
 exact Sz.over (Int.mul_ne_zero (den_ne x) (fun e=>h0 (Rat.num_eq_zero.1 e))) (bits_mul hx.1 (by simpa using hy.2)) (bits_mul (by simpa using hx.2) hy.1)
section
variable {a b:ref01_Q} {x y:Rat} {Q:ref01_Q->Prop}
end
end Go.Proofs.Ytgbmmbfminafnaa.E
namespace Go.Proofs.Ytgbmmbfminafnaa.E
open Go Go.RowKit
theorem int_over (n:Int):(Rat.divInt n 1).num=n/\(Rat.divInt n 1).den=1:=by
 have h1:=over_num n 1 (by decide)
 have h2:=over_den n 1 (by decide)
 rw [Nat.gcd_one_right] at h1 h2
 exact ⟨by simpa using h1,by simpa using h2⟩
theorem den_len {s:Nat} {x:Rat} (h:Sz s x):(x.den:Int).natAbs<2 ^ s:=by simpa using h.2
section
variable {a b:ref01_Q} {x y:Rat} {Q:ref01_Q->Prop}
end
end Go.Proofs.Ytgbmmbfminafnaa.E
