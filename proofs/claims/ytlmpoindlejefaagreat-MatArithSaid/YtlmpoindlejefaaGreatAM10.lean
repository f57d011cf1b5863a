/- The reference's numbers: what is done with them. -/
import Derived.Test.YtlmpoindlejefaaGreatAM9
set_option linter.unusedVariables false
set_option linter.unusedSimpArgs false
namespace Go.Proofs.YtlmpoindlejefaaGreat.E
open Go Go.RowKit
theorem int_over (n:Int):(Rat.divInt n 1).num=n/\(Rat.divInt n 1).den=1:=by
 have h1:=over_num n 1 (by decide)
 have h2:=over_den n 1 (by decide)
 rw [Nat.gcd_one_right] at h1 h2
 exact ⟨by simpa using h1,by simpa using h2⟩
theorem den_len {s:Nat} {x:Rat} (h:Sz s x):(x.den:Int).natAbs<2 ^ s:=by simpa using h.2
section
variable {a b:ref01_Q} {x y:Rat} {Q:ref01_Q->Prop}
theorem RRep.int {z:ref01_whole} {n:Int} {u:ref01_whole} (hz:WRep z n) (hu:WRep u 1):RRep ⟨z,u⟩ (n:Rat):=⟨by simpa using hz,.inl (by simpa using hu)⟩
theorem ref01_Int_run {n:Int} (hn:I64 n) (H:∀ z,RRep z (n:Rat)->Q z):(ref01_Int.f n).run Q:=by
 unfold ref01_Int.f
 exact W.bd (ref01_ofInt_run hn fun z hz=>W.bd (ref01_one_run fun u hu=>H _ (RRep.int hz hu)))
theorem ref01_Of_run {r:api_Rat} (hn:I64 r.N) (hd:I64 r.D) (h0:r.D≠0) (H:∀ z,RRep z (Rat.divInt r.N r.D)->Q z):(ref01_Of.f r).run Q:=by
 unfold ref01_Of.f
 have e1:=i64_iff.1 hn
 have e2:=i64_iff.1 hd
 refine W.bd (ref01_ofInt_run hn fun z hz=>W.bd (ref01_ofInt_run hd fun u hu=>W.bd (ref01_ratio_run hz hu h0 ?_ ?_ fun q hq=>H q hq)))
 ·have:=hz.len (s:=64) (by omega)
  omega
 ·have:=hu.len (s:=64) (by omega)
  omega
theorem ref01_Add_run (ha:RRep a x) (hb:RRep b y) (ox:Ok x) (oy:Ok y) (H:∀ z,RRep z (x+y)->Q z):(ref01_Q_Add.f a b).run Q:=by
 obtain ⟨s,hs,sx⟩:=ox
 obtain ⟨t,ht,sy⟩:=oy
 rw [add_over] at H
 have hbits:=bits_mul sx.1 (den_len sy)
 have hbits2:=bits_mul sy.1 (den_len sx)
 rw [Nat.add_comm t s] at hbits2
 have hbits3:=bits_mul (den_len sx) (den_len sy)
 unfold ref01_Q_Add.f
 refine W.bd (ref01_den_run ha fun u hu=>W.bd (ref01_den_run hb fun v hv=>?_))
 have lx:=ha.n.len sx.1
 have ly:=hb.n.len sy.1
 have lu:=hu.len (den_len sx)
 have lv:=hv.len (den_len sy)
 have last:(ref01_Q_Add.j1 a v b u ⟨⟨[],false⟩,⟨[],false⟩⟩).run Q:=by
  unfold ref01_Q_Add.j1
  refine W.bd (ref01_mul_run ha.n hv (by omega) (by omega) fun p hp=>W.bd (ref01_mul_run hb.n hu (by omega) (by omega) fun q hq=>W.bd (ref01_add_run hp hq ?_ ?_ fun n hn=>W.bd (ref01_mul_run hu hv (by omega) (by omega) fun d hd=>W.bd (ref01_ratio_run hn hd (Int.mul_ne_zero (den_ne x) (den_ne y)) ?_ ?_ fun z hz=>H z hz)))))
  ·have:=hp.len hbits;omega
  ·have:=hq.len hbits2;omega
  ·have:=hn.len (bits_add hbits hbits2);omega
  ·have:=hd.len hbits3;omega
 refine W.bd (ref01_isOne_run hu (W.run_if (fun c=>W.bd (ref01_isOne_run hv (W.run_if (fun c2=>?_) (fun c2=>last)))) (fun c=>last)))
 have c1:=of_decide_eq_true c
 have c3:=of_decide_eq_true c2
 rw [c1,c3,Int.mul_one,Int.mul_one,Int.mul_one] at H
 refine W.bd (ref01_add_run ha.n hb.n (by omega) (by omega) fun n hn=>H _ ⟨?_,.inl ?_⟩)
 ·rw [(int_over _).1];exact hn
 ·rw [(int_over _).2];rwa [c1] at hu
theorem ref01_Mul_run (ha:RRep a x) (hb:RRep b y) (ox:Ok x) (oy:Ok y) (H:∀ z,RRep z (x*y)->Q z):(ref01_Q_Mul.f a b).run Q:=by
 obtain ⟨s,hs,sx⟩:=ox
 obtain ⟨t,ht,sy⟩:=oy
 rw [mul_over] at H
 have hbits:=bits_mul sx.1 sy.1
 have hbits3:=bits_mul (den_len sx) (den_len sy)
 unfold ref01_Q_Mul.f
 refine W.bd (ref01_den_run ha fun u hu=>W.bd (ref01_den_run hb fun v hv=>?_))
 have lx:=ha.n.len sx.1
 have ly:=hb.n.len sy.1
 have lu:=hu.len (den_len sx)
 have lv:=hv.len (den_len sy)
 have last:(ref01_Q_Mul.j1 a b u v ⟨⟨[],false⟩,⟨[],false⟩⟩).run Q:=by
  unfold ref01_Q_Mul.j1
  refine W.bd (ref01_mul_run ha.n hb.n (by omega) (by omega) fun n hn=>W.bd (ref01_mul_run hu hv (by omega) (by omega) fun d hd=>W.bd (ref01_ratio_run hn hd (Int.mul_ne_zero (den_ne x) (den_ne y)) ?_ ?_ fun z hz=>H z hz)))
  ·have:=hn.len hbits;omega
  ·have:=hd.len hbits3;omega
 refine W.bd (ref01_isOne_run hu (W.run_if (fun c=>W.bd (ref01_isOne_run hv (W.run_if (fun c2=>?_) (fun c2=>last)))) (fun c=>last)))
 have c1:=of_decide_eq_true c
 have c3:=of_decide_eq_true c2
 rw [c1,c3,Int.mul_one] at H
 refine W.bd (ref01_mul_run ha.n hb.n (by omega) (by omega) fun n hn=>H _ ⟨?_,.inl ?_⟩)
 ·rw [(int_over _).1];exact hn
 ·rw [(int_over _).2];rwa [c1] at hu
theorem ref01_small_run {z:ref01_whole} {n:Int} {Q:Int×Bool->Prop} (h:WRep z n) (H:∀ v b,(b=true->v=n)->(b=true ↔ -9223372036854775808<=n/\n<=9223372036854775807)->Q (v,b)):(ref01_whole_small.f z).run Q:=by
 have hv:=h.abs
 unfold ref01_whole_small.f
 refine W.run_if (fun c=>H _ _ (fun e=>by simp at e) ⟨fun e=>by simp at e,fun e=>?_⟩) (fun c=>?_)
 ·have h1:=h.tr.ge h.wd (fun e=>by rw [e] at c;simp at c)
  have h2:=bmono (i:=2) (j:=z.d.length - 1) (by omega)
  rw [show (4294967296:Int) ^ 2=18446744073709551616 from by decide] at h2
  omega
 ·refine W.loop_c (fun s:Int×Int=>∃ i:Nat,s.2=i/\i<=z.d.length/\s.1=sv (gn z.d) 0 i) (fun s=>z.d.length - s.2.toNat) ⟨0,rfl,Nat.zero_le _,rfl⟩ ?_
  rintro ⟨u,_⟩ P ⟨i,rfl,hi,hu⟩ hgo hbrk hout
  simp only at hu hgo |-
  have h0:=h.wd i
  have hs0:=sv_nonneg h.wd 0 i
  have hs1:=sv_lt h.wd 0 i
  unfold ref01_whole_small.l1
  rw [gi_nat]
  refine W.run_if (fun c2=>W.req_i (by omega) (hgo _ ⟨i+1,by simp,by omega,?_⟩ (by simp;omega))) (fun c2=>hbrk _ ?_)
  ·simp only
   rw [sv,Nat.zero_add]
   rcases (show i=0\/i=1 by omega) with rfl | rfl
   ·rw [show ((32:Int)*(((0:Nat):Int) % 18446744073709551616)) % 18446744073709551616=((0:Nat):Int) by decide,ishl_n _ _ _ (by decide),wrap_u64,Int.pow_zero,Int.mul_one,Int.emod_eq_of_lt h0.1 (by omega),hu]
    have:=ior_sum64 (a:=0) (b:=gn z.d 0) (n:=32) (by decide) h0.1 h0.2 (by show (0:Int)*4294967296+_<_;omega)
    rw [Int.zero_mul] at this
    simpa [sv] using this
   ·rw [show ((32:Int)*(((1:Nat):Int) % 18446744073709551616)) % 18446744073709551616=32 by decide,ior_comm,hu]
    rw [Int.pow_one] at hs1
    rw [ior64_32 h0.1 h0.2 hs0 hs1,Int.pow_one]
    omega
  ·obtain rfl:i=z.d.length:=by omega
   have hun:u=n.natAbs:=by rw [hu,<- hv];rfl
   have hneg:=h.neg_iff
   rw [hu] at hun
   have hlt:u<18446744073709551616:=by
    have:=bmono (i:=z.d.length) (j:=2) (by omega)
    rw [show (4294967296:Int) ^ 2=18446744073709551616 from by decide] at this
    omega
   unfold ref01_whole_small.j1
   refine W.run_if (fun c3=>H _ _ (fun e=>?_) ?_) (fun c3=>H _ _ (fun e=>?_) ?_)
   ·have e:=of_decide_eq_true e
    have:=hneg.1 c3
    simp only at e |-
    have hw:∀ w:Int,w=18446744073709551616 - (n.natAbs:Int)->9223372036854775808<=w->w<18446744073709551616->IntKind.i64.wrap w=n:=by
     intro w h1 h2 h3
     have h4:=wrap64_is w
     rw [h4]
     omega
    exact hw _ (by omega) (by omega) (by omega)
   ·have:=hneg.1 c3
    simp only [decide_eq_true_eq]
    omega
   ·have e:=of_decide_eq_true e
    have: ¬ n<0:=fun h=>c3 (hneg.2 h)
    simp only at e |-
    rw [wrap_i64 (by omega) (by omega)]
    omega
   ·have: ¬ n<0:=fun h=>c3 (hneg.2 h)
    simp only [decide_eq_true_eq]
    omega
def toldR (x:Rat):api_Rat×Bool:=if -1000000000000<=x.num/\x.num<=1000000000000/\x.den<=1000000000000 then (⟨x.num,x.den⟩,true) else (⟨0,0⟩,false)
theorem ref01_Rat_run {Q:api_Rat×Bool->Prop} (ha:RRep a x) (H:Q (toldR x)):(ref01_Rat.f a).run Q:=by
 unfold ref01_Rat.f
 refine W.bd (ref01_small_run ha.n fun v b h1 h2=>W.bd (ref01_den_run ha fun d hd=>W.bd (ref01_small_run hd fun v' b' h3 h4=>?_)))
 simp only
 have no: ¬ (-1000000000000<=x.num/\x.num<=1000000000000/\x.den<=1000000000000)->Q (⟨0,0⟩,false):=fun h=>by
  unfold toldR at H
  rwa [if_neg h] at H
 refine W.run_if (fun c1=>W.run_if (fun c2=>?_) (fun c2=>no ?_)) (fun c1=>no ?_)
 ·have e1:=h1 c1
  have e2:=h3 c2
  subst e1 e2
  refine W.run_if (fun c=>no (by omega)) (fun c=>W.run_if (fun c'=>no (by omega)) (fun c'=>W.run_if (fun c''=>no (by omega)) (fun c''=>?_)))
  unfold toldR at H
  rwa [if_pos (by omega)] at H
 ·have: ¬ (-9223372036854775808<=(x.den:Int)/\(x.den:Int)<=9223372036854775807):=fun e=>c2 (h4.2 e)
  omega
 ·have: ¬ (-9223372036854775808<=x.num/\x.num<=9223372036854775807):=fun e=>c1 (h2.2 e)
  omega
end
end Go.Proofs.YtlmpoindlejefaaGreat.E
