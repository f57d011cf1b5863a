/- The reference's numbers: what is done with them. -/
import Derived.Test.YtlmpoindlejefaaQM9
set_option linter.unusedVariables false
set_option linter.unusedSimpArgs false
namespace Go.Proofs.Ytlmpoindlejefaa.E
open Go Go.RowKit
theorem zDw (n:Int):(Rat.divInt n 1).num=n/\(Rat.divInt n 1).den=1:=by
 have h1:=zFH n 1 (by decide)
 have h2:=zFI n 1 (by decide)
 rw [Nat.gcd_one_right] at h1 h2
 exact ⟨by simpa using h1,by simpa using h2⟩
theorem zBE {s:Nat} {x:Rat} (h:Sz s x):(x.den:Int).natAbs<2 ^ s:=by simpa using h.2
section
variable {a b:zp} {x y:Rat} {Q:zp->Prop}
theorem RRep.int {z:zAD} {n:Int} {u:zAD} (hz:WRep z n) (hu:WRep u 1):RRep ⟨z,u⟩ (n:Rat):=⟨by simpa using hz,.inl (by simpa using hu)⟩
theorem zEH {n:Int} (hn:I64 n) (H:∀ z,RRep z (n:Rat)->Q z):(zDf.f n).run Q:=by
 unfold zDf.f
 exact W.bd (zDb hn fun z hz=>W.bd (zFC fun u hu=>H _ (RRep.int hz hu)))
theorem zDE {r:zn} (hn:I64 r.N) (hd:I64 r.D) (h0:r.D≠0) (H:∀ z,RRep z (Rat.divInt r.N r.D)->Q z):(zDP.f r).run Q:=by
 unfold zDP.f
 have e1:=zC9.1 hn
 have e2:=zC9.1 hd
 refine W.bd (zDb hn fun z hz=>W.bd (zDb hd fun u hu=>W.bd (zCs hz hu h0 ?_ ?_ fun q hq=>H q hq)))
 ·have:=hz.len (s:=64) (by omega)
  omega
 ·have:=hu.len (s:=64) (by omega)
  omega
theorem zCg (ha:RRep a x) (hb:RRep b y) (ox:Ok x) (oy:Ok y) (H:∀ z,RRep z (x+y)->Q z):(zA1.f a b).run Q:=by
 obtain ⟨s,hs,sx⟩:=ox
 obtain ⟨t,ht,sy⟩:=oy
 rw [zHQ] at H
 have hbits:=zA0 sx.1 (zBE sy)
 have hbits2:=zA0 sy.1 (zBE sx)
 rw [Nat.add_comm t s] at hbits2
 have hbits3:=zA0 (zBE sx) (zBE sy)
 unfold zA1.f
 refine W.bd (zB3 ha fun u hu=>W.bd (zB3 hb fun v hv=>?_))
 have lx:=ha.n.len sx.1
 have ly:=hb.n.len sy.1
 have lu:=hu.len (zBE sx)
 have lv:=hv.len (zBE sy)
 have last:(zA1.j1 a v b u ⟨⟨[],false⟩,⟨[],false⟩⟩).run Q:=by
  unfold zA1.j1
  refine W.bd (zB2 ha.n hv (by omega) (by omega) fun p hp=>W.bd (zB2 hb.n hu (by omega) (by omega) fun q hq=>W.bd (zFD hp hq ?_ ?_ fun n hn=>W.bd (zB2 hu hv (by omega) (by omega) fun d hd=>W.bd (zCs hn hd (Int.mul_ne_zero (zDp x) (zDp y)) ?_ ?_ fun z hz=>H z hz)))))
  ·have:=hp.len hbits;omega
  ·have:=hq.len hbits2;omega
  ·have:=hn.len (zFZ hbits hbits2);omega
  ·have:=hd.len hbits3;omega
 refine W.bd (zCX hu (W.run_if (fun c=>W.bd (zCX hv (W.run_if (fun c2=>?_) (fun c2=>last)))) (fun c=>last)))
 have c1:=of_decide_eq_true c
 have c3:=of_decide_eq_true c2
 rw [c1,c3,Int.mul_one,Int.mul_one,Int.mul_one] at H
 refine W.bd (zFD ha.n hb.n (by omega) (by omega) fun n hn=>H _ ⟨?_,.inl ?_⟩)
 ·rw [(zDw _).1];exact hn
 ·rw [(zDw _).2];rwa [c1] at hu
theorem zCt (ha:RRep a x) (hb:RRep b y) (ox:Ok x) (oy:Ok y) (H:∀ z,RRep z (x*y)->Q z):(zA4.f a b).run Q:=by
 obtain ⟨s,hs,sx⟩:=ox
 obtain ⟨t,ht,sy⟩:=oy
 rw [zHF] at H
 have hbits:=zA0 sx.1 sy.1
 have hbits3:=zA0 (zBE sx) (zBE sy)
 unfold zA4.f
 refine W.bd (zB3 ha fun u hu=>W.bd (zB3 hb fun v hv=>?_))
 have lx:=ha.n.len sx.1
 have ly:=hb.n.len sy.1
 have lu:=hu.len (zBE sx)
 have lv:=hv.len (zBE sy)
 have last:(zA4.j1 a b u v ⟨⟨[],false⟩,⟨[],false⟩⟩).run Q:=by
  unfold zA4.j1
  refine W.bd (zB2 ha.n hb.n (by omega) (by omega) fun n hn=>W.bd (zB2 hu hv (by omega) (by omega) fun d hd=>W.bd (zCs hn hd (Int.mul_ne_zero (zDp x) (zDp y)) ?_ ?_ fun z hz=>H z hz)))
  ·have:=hn.len hbits;omega
  ·have:=hd.len hbits3;omega
 refine W.bd (zCX hu (W.run_if (fun c=>W.bd (zCX hv (W.run_if (fun c2=>?_) (fun c2=>last)))) (fun c=>last)))
 have c1:=of_decide_eq_true c
 have c3:=of_decide_eq_true c2
 rw [c1,c3,Int.mul_one] at H
 refine W.bd (zB2 ha.n hb.n (by omega) (by omega) fun n hn=>H _ ⟨?_,.inl ?_⟩)
 ·rw [(zDw _).1];exact hn
 ·rw [(zDw _).2];rwa [c1] at hu
theorem zFE (ha:RRep a x) (H:∀ z,RRep z (-x)->Q z):(zC4.f a).run Q:=by
 unfold zC4.f
 refine W.bd (zEE ha.n fun n hn=>W.bd (zB3 ha fun d hd=>H _ ⟨?_,.inl ?_⟩))
 ·rw [Rat.neg_num];exact hn
 ·rw [Rat.neg_den];exact hd
theorem zEF (ha:RRep a x) (hb:RRep b y) (ox:Ok x) (oy:Ok y) (H:∀ z,RRep z (x - y)->Q z):(zCn.f a b).run Q:=by
 obtain ⟨t,ht,sy⟩:=oy
 rw [Rat.sub_eq_add_neg] at H
 unfold zCn.f
 exact W.bd (zFE hb fun n hn=>W.bd (zCg ha hn ox (sy.neg.ok ht) H))
theorem zDM {Q:Bool->Prop} (ha:RRep a x) (H:Q (decide (x=0))):(zCB.f a).run Q:=by
 unfold zCB.f
 refine W.bd (zCT ha.n ?_)
 rw [show decide (x.num=0)=decide (x=0) from by rw [decide_eq_decide];exact Rat.num_eq_zero]
 exact H
theorem zG8 (ha:RRep a x) (hb:RRep b y) (ox:Ok x) (oy:Ok y) (h0:y≠0) (H:∀ z,RRep z (x / y)->Q z):(zDd.f a b).run Q:=by
 obtain ⟨s,hs,sx⟩:=ox
 obtain ⟨t,ht,sy⟩:=oy
 rw [zHO] at H
 have hbits:=zA0 sx.1 (zBE sy)
 have hbits3:=zA0 (zBE sx) sy.1
 have lx:=ha.n.len sx.1
 have ly:=hb.n.len sy.1
 unfold zDd.f
 refine W.bd (zB3 hb fun v hv=>?_)
 have lv:=hv.len (zBE sy)
 refine W.bd (zB2 ha.n hv (by omega) (by omega) fun n hn=>W.bd (zB3 ha fun u hu=>?_))
 have lu:=hu.len (zBE sx)
 refine W.bd (zB2 hu hb.n (by omega) (by omega) fun d hd=>W.bd (zCs hn hd (Int.mul_ne_zero (zDp x) (fun e=>h0 (Rat.num_eq_zero.1 e))) ?_ ?_ fun z hz=>H z hz))
 ·have:=hn.len hbits;omega
 ·have:=hd.len hbits3;omega
theorem zEU {z:zAD} {n:Int} {Q:Int×Bool->Prop} (h:WRep z n) (H:∀ v b,(b=true->v=n)->(b=true ↔ -9223372036854775808<=n/\n<=9223372036854775807)->Q (v,b)):(zAc.f z).run Q:=by
 have hv:=h.abs
 unfold zAc.f
 refine W.run_if (fun c=>H _ _ (fun e=>by simp at e) ⟨fun e=>by simp at e,fun e=>?_⟩) (fun c=>?_)
 ·have h1:=h.tr.ge h.wd (fun e=>by rw [e] at c;simp at c)
  have h2:=bmono (i:=2) (j:=z.d.length - 1) (by omega)
  rw [show (4294967296:Int) ^ 2=18446744073709551616 from by decide] at h2
  omega
 ·refine W.loop_c (fun s:Int×Int=>∃ i:Nat,s.2=i/\i<=z.d.length/\s.1=sv (gn z.d) 0 i) (fun s=>z.d.length - s.2.toNat) ⟨0,rfl,Nat.zero_le _,rfl⟩ ?_
  rintro ⟨u,_⟩ P ⟨i,rfl,hi,hu⟩ hgo hbrk hout
  simp only at hu hgo |-
  have h0:=h.wd i
  have hs0:=zA9 h.wd 0 i
  have hs1:=zEo h.wd 0 i
  unfold zAc.l1
  rw [zBZ]
  refine W.run_if (fun c2=>W.req_i (by omega) (hgo _ ⟨i+1,by simp,by omega,?_⟩ (by simp;omega))) (fun c2=>hbrk _ ?_)
  ·simp only
   rw [sv,Nat.zero_add]
   rcases (show i=0\/i=1 by omega) with rfl | rfl
   ·rw [show ((32:Int)*(((0:Nat):Int) % 18446744073709551616)) % 18446744073709551616=((0:Nat):Int) by decide,zHg _ _ _ (by decide),wrap_u64,Int.pow_zero,Int.mul_one,Int.emod_eq_of_lt h0.1 (by omega),hu]
    have:=zHh (a:=0) (b:=gn z.d 0) (n:=32) (by decide) h0.1 h0.2 (by show (0:Int)*4294967296+_<_;omega)
    rw [Int.zero_mul] at this
    simpa [sv] using this
   ·rw [show ((32:Int)*(((1:Nat):Int) % 18446744073709551616)) % 18446744073709551616=32 by decide,zGB,hu]
    rw [Int.pow_one] at hs1
    rw [zDv h0.1 h0.2 hs0 hs1,Int.pow_one]
    omega
  ·obtain rfl:i=z.d.length:=by omega
   have hun:u=n.natAbs:=by rw [hu,<- hv];rfl
   have hneg:=h.neg_iff
   rw [hu] at hun
   have hlt:u<18446744073709551616:=by
    have:=bmono (i:=z.d.length) (j:=2) (by omega)
    rw [show (4294967296:Int) ^ 2=18446744073709551616 from by decide] at this
    omega
   unfold zAc.j1
   refine W.run_if (fun c3=>H _ _ (fun e=>?_) ?_) (fun c3=>H _ _ (fun e=>?_) ?_)
   ·have e:=of_decide_eq_true e
    have:=hneg.1 c3
    simp only at e |-
    have hw:∀ w:Int,w=18446744073709551616 - (n.natAbs:Int)->9223372036854775808<=w->w<18446744073709551616->IntKind.i64.wrap w=n:=by
     intro w h1 h2 h3
     have h4:=zHR w
     rw [h4]
     omega
    exact hw _ (by omega) (by omega) (by omega)
   ·have:=hneg.1 c3
    simp only [decide_eq_true_eq]
    omega
   ·have e:=of_decide_eq_true e
    have: ¬ n<0:=fun h=>c3 (hneg.2 h)
    simp only at e |-
    rw [wrap_i64 (by omega) (by omega)]
    omega
   ·have: ¬ n<0:=fun h=>c3 (hneg.2 h)
    simp only [decide_eq_true_eq]
    omega
def toldR (x:Rat):zn×Bool:=if -1000000000000<=x.num/\x.num<=1000000000000/\x.den<=1000000000000 then (⟨x.num,x.den⟩,true) else (⟨0,0⟩,false)
theorem zEG {Q:zn×Bool->Prop} (ha:RRep a x) (H:Q (toldR x)):(zD6.f a).run Q:=by
 unfold zD6.f
 refine W.bd (zEU ha.n fun v b h1 h2=>W.bd (zB3 ha fun d hd=>W.bd (zEU hd fun v' b' h3 h4=>?_)))
 simp only
 have no: ¬ (-1000000000000<=x.num/\x.num<=1000000000000/\x.den<=1000000000000)->Q (⟨0,0⟩,false):=fun h=>by
  unfold toldR at H
  rwa [if_neg h] at H
 refine W.run_if (fun c1=>W.run_if (fun c2=>?_) (fun c2=>no ?_)) (fun c1=>no ?_)
 ·have e1:=h1 c1
  have e2:=h3 c2
  subst e1 e2
  refine W.run_if (fun c=>no (by omega)) (fun c=>W.run_if (fun c'=>no (by omega)) (fun c'=>W.run_if (fun c''=>no (by omega)) (fun c''=>?_)))
  unfold toldR at H
  rwa [if_pos (by omega)] at H
 ·have: ¬ (-9223372036854775808<=(x.den:Int)/\(x.den:Int)<=9223372036854775807):=fun e=>c2 (h4.2 e)
  omega
 ·have: ¬ (-9223372036854775808<=x.num/\x.num<=9223372036854775807):=fun e=>c1 (h2.2 e)
  omega
end
end Go.Proofs.Ytlmpoindlejefaa.E
