/- The reference's numbers: what is done with them. -/
import Derived.Test.YtlmpoindlejefaaBM9
set_option linter.unusedVariables false
set_option linter.unusedSimpArgs false
namespace Go.Proofs.Ytlmpoindlejefaa.E
open Go Go.RowKit
theorem zD2 (n:Int):(Rat.divInt n 1).num=n/\(Rat.divInt n 1).den=1:=by
 have h1:=zFR n 1 (by decide)
 have h2:=zFS n 1 (by decide)
 rw [Nat.gcd_one_right] at h1 h2
 exact ⟨by simpa using h1,by simpa using h2⟩
theorem zBD {s:Nat} {x:Rat} (h:Sz s x):(x.den:Int).natAbs<2 ^ s:=by simpa using h.2
section
variable {a b:zAP} {x y:Rat} {Q:zAP->Prop}
theorem zHa {r:zAC} (hn:I64 r.N) (hd:I64 r.D) (h0:r.D≠0) (H:∀ z,RRep z (Rat.divInt r.N r.D)->Q z):(zCZ.f r).run Q:=by
 unfold zCZ.f
 have e1:=zDI.1 hn
 have e2:=zDI.1 hd
 refine W.bd (zEf hn fun z hz=>W.bd (zEf hd fun u hu=>W.bd (zDn hz hu h0 ?_ ?_ fun q hq=>H q hq)))
 ·have:=hz.len (s:=64) (by omega)
  omega
 ·have:=hu.len (s:=64) (by omega)
  omega
theorem zFP (ha:RRep a x) (hb:RRep b y) (ox:Ok x) (oy:Ok y) (H:∀ z,RRep z (x+y)->Q z):(zBc.f a b).run Q:=by
 obtain ⟨s,hs,sx⟩:=ox
 obtain ⟨t,ht,sy⟩:=oy
 rw [zHV] at H
 have hbits:=zA8 sx.1 (zBD sy)
 have hbits2:=zA8 sy.1 (zBD sx)
 rw [Nat.add_comm t s] at hbits2
 have hbits3:=zA8 (zBD sx) (zBD sy)
 unfold zBc.f
 refine W.bd (zCP ha fun u hu=>W.bd (zCP hb fun v hv=>?_))
 have lx:=ha.n.len sx.1
 have ly:=hb.n.len sy.1
 have lu:=hu.len (zBD sx)
 have lv:=hv.len (zBD sy)
 have last:(zBc.j1 a v b u ⟨⟨[],false⟩,⟨[],false⟩⟩).run Q:=by
  unfold zBc.j1
  refine W.bd (zCA ha.n hv (by omega) (by omega) fun p hp=>W.bd (zCA hb.n hu (by omega) (by omega) fun q hq=>W.bd (zFM hp hq ?_ ?_ fun n hn=>W.bd (zCA hu hv (by omega) (by omega) fun d hd=>W.bd (zDn hn hd (Int.mul_ne_zero (zDb x) (zDb y)) ?_ ?_ fun z hz=>H z hz)))))
  ·have:=hp.len hbits;omega
  ·have:=hq.len hbits2;omega
  ·have:=hn.len (zFe hbits hbits2);omega
  ·have:=hd.len hbits3;omega
 refine W.bd (zCd hu (W.run_if (fun c=>W.bd (zCd hv (W.run_if (fun c2=>?_) (fun c2=>last)))) (fun c=>last)))
 have c1:=of_decide_eq_true c
 have c3:=of_decide_eq_true c2
 rw [c1,c3,Int.mul_one,Int.mul_one,Int.mul_one] at H
 refine W.bd (zFM ha.n hb.n (by omega) (by omega) fun n hn=>H _ ⟨?_,.inl ?_⟩)
 ·rw [(zD2 _).1];exact hn
 ·rw [(zD2 _).2];rwa [c1] at hu
theorem zFN (ha:RRep a x) (hb:RRep b y) (ox:Ok x) (oy:Ok y) (H:∀ z,RRep z (x*y)->Q z):(zBa.f a b).run Q:=by
 obtain ⟨s,hs,sx⟩:=ox
 obtain ⟨t,ht,sy⟩:=oy
 rw [zHJ] at H
 have hbits:=zA8 sx.1 sy.1
 have hbits3:=zA8 (zBD sx) (zBD sy)
 unfold zBa.f
 refine W.bd (zCP ha fun u hu=>W.bd (zCP hb fun v hv=>?_))
 have lx:=ha.n.len sx.1
 have ly:=hb.n.len sy.1
 have lu:=hu.len (zBD sx)
 have lv:=hv.len (zBD sy)
 have last:(zBa.j1 a b u v ⟨⟨[],false⟩,⟨[],false⟩⟩).run Q:=by
  unfold zBa.j1
  refine W.bd (zCA ha.n hb.n (by omega) (by omega) fun n hn=>W.bd (zCA hu hv (by omega) (by omega) fun d hd=>W.bd (zDn hn hd (Int.mul_ne_zero (zDb x) (zDb y)) ?_ ?_ fun z hz=>H z hz)))
  ·have:=hn.len hbits;omega
  ·have:=hd.len hbits3;omega
 refine W.bd (zCd hu (W.run_if (fun c=>W.bd (zCd hv (W.run_if (fun c2=>?_) (fun c2=>last)))) (fun c=>last)))
 have c1:=of_decide_eq_true c
 have c3:=of_decide_eq_true c2
 rw [c1,c3,Int.mul_one] at H
 refine W.bd (zCA ha.n hb.n (by omega) (by omega) fun n hn=>H _ ⟨?_,.inl ?_⟩)
 ·rw [(zD2 _).1];exact hn
 ·rw [(zD2 _).2];rwa [c1] at hu
theorem zHC (ha:RRep a x) (H:∀ z,RRep z (-x)->Q z):(zDp.f a).run Q:=by
 unfold zDp.f
 refine W.bd (zEM ha.n fun n hn=>W.bd (zCP ha fun d hd=>H _ ⟨?_,.inl ?_⟩))
 ·rw [Rat.neg_num];exact hn
 ·rw [Rat.neg_den];exact hd
def toldR (x:Rat):zAC×Bool:=if -1000000000000<=x.num/\x.num<=1000000000000/\x.den<=1000000000000 then (⟨x.num,x.den⟩,true) else (⟨0,0⟩,false)
end
end Go.Proofs.Ytlmpoindlejefaa.E
