/- The reference's numbers. -/
import Derived.Test.YtlmpoindlejefaaBM8
set_option linter.unusedVariables false
set_option linter.unusedSimpArgs false
namespace Go.Proofs.Ytlmpoindlejefaa.E
open Go Go.RowKit
def Sz (s:Nat) (x:Rat):Prop:=x.num.natAbs<2 ^ s/\x.den<2 ^ s
def Ok (x:Rat):Prop:=∃ s:Nat,s<=8796093022208/\Sz s x
theorem Sz.mono {s t:Nat} {x:Rat} (h:Sz s x) (hst:s<=t):Sz t x:=⟨zCM h.1 hst,zCM h.2 hst⟩
theorem Sz.ok {s:Nat} {x:Rat} (h:Sz s x) (hs:s<=8796093022208):Ok x:=⟨s,hs,h⟩
theorem zHD (n d:Int) (hd:d≠0):Rat.divInt n d=Rat.divInt (if d<0 then -n else n) (d.natAbs:Int):=by
 split
 ·rw [show (d.natAbs:Int)= -d by omega,Rat.neg_divInt_neg]
 ·rw [show (d.natAbs:Int)=d by omega]
theorem zFR (n:Int) (d:Nat) (hd:d≠0):(Rat.divInt n d).num=n / (Nat.gcd n.natAbs d:Nat):=by
 rw [Rat.num_divInt,Int.gcd]
 rw [Int.sign_eq_one_of_pos (by omega),Int.one_mul,Int.natAbs_natCast,Nat.gcd_comm]
theorem zFS (n:Int) (d:Nat) (hd:d≠0):(Rat.divInt n d).den=d / Nat.gcd n.natAbs d:=by
 rw [Rat.den_divInt,if_neg (by omega),Int.gcd,Int.natAbs_natCast,Nat.gcd_comm]
theorem Sz.over {n d:Int} {s:Nat} (hd:d≠0) (hn:n.natAbs<2 ^ s) (hd':d.natAbs<2 ^ s):Sz s (Rat.divInt n d):=by
 rw [zHD n d hd]
 have h0:d.natAbs≠0:=by omega
 have hg:=Nat.gcd_pos_of_pos_right (if d<0 then -n else n).natAbs (Nat.pos_of_ne_zero h0)
 constructor
 ·rw [zFR _ _ h0]
  refine Nat.lt_of_le_of_lt ?_ hn
  rw [Int.natAbs_ediv_of_dvd (Int.ofNat_dvd_left.2 (Nat.gcd_dvd_left _ _)),Int.natAbs_natCast]
  refine Nat.le_trans (Nat.div_le_self _ _) ?_
  split <;> omega
 ·rw [zFS _ _ h0]
  exact Nat.lt_of_le_of_lt (Nat.div_le_self _ _) hd'
theorem zHV (x y:Rat):x+y=Rat.divInt (x.num*y.den+y.num*x.den) ((x.den:Int)*y.den):=by
 rw [Rat.add_def',<- Rat.divInt_ofNat]
 simp
theorem zHJ (x y:Rat):x*y=Rat.divInt (x.num*y.num) ((x.den:Int)*y.den):=by
 rw [Rat.mul_def',<- Rat.divInt_ofNat]
 simp
theorem zIO (x y:Rat):x / y=Rat.divInt (x.num*y.den) ((x.den:Int)*y.num):=by
 have h1:=Rat.num_divInt_den x
 have h2:=Rat.num_divInt_den y
 rw [Rat.div_def]
 conv=>lhs;rw [<- h1,<- h2,Rat.inv_divInt,Rat.divInt_mul_divInt]
theorem zDb (x:Rat):(x.den:Int)≠0:=by have:=x.den_pos;omega
theorem Sz.add {x y:Rat} {s t:Nat} (hx:Sz s x) (hy:Sz t y):Sz (s+t+1) (x+y):=by
 rw [zHV]
 refine Sz.over (Int.mul_ne_zero (zDb x) (zDb y)) (zFe (zA8 hx.1 (by simpa using hy.2)) ?_) (zCM (zA8 (by simpa using hx.2) (by simpa using hy.2)) (by omega))
 rw [Nat.add_comm s t]
 exact zA8 hy.1 (by simpa using hx.2)
theorem Sz.neg {x:Rat} {s:Nat} (h:Sz s x):Sz s (-x):=by
 refine ⟨?_,by simpa using h.2⟩
 rw [Rat.neg_num,Int.natAbs_neg];exact h.1
theorem Sz.sub {x y:Rat} {s t:Nat} (hx:Sz s x) (hy:Sz t y):Sz (s+t+1) (x - y):=by
 rw [Rat.sub_eq_add_neg];exact hx.add hy.neg
theorem Sz.mul {x y:Rat} {s t:Nat} (hx:Sz s x) (hy:Sz t y):Sz (s+t) (x*y):=by
 rw [zHJ]
 exact Sz.over (Int.mul_ne_zero (zDb x) (zDb y)) (zA8 hx.1 hy.1) (zA8 (by simpa using hx.2) (by simpa using hy.2))
theorem Sz.div {x y:Rat} {s t:Nat} (hx:Sz s x) (hy:Sz t y) (h0:y≠0):Sz (s+t) (x / y):=by
 rw [zIO]
 exact Sz.over (Int.mul_ne_zero (zDb x) (fun e=>h0 (Rat.num_eq_zero.1 e))) (zA8 hx.1 (by simpa using hy.2)) (zA8 (by simpa using hx.2) hy.1)
structure RRep (z:zAP) (x:Rat):Prop where
 n:WRep z.n x.num
 d:WRep z.d x.den\/WRep z.d 0/\x.den=1
theorem WRep.zero:WRep ⟨[],false⟩ 0:=⟨Wd.nil,Tr.nil,rfl,fun h=>by simp at h⟩
theorem WRep.one:WRep ⟨[1],false⟩ 1:=⟨Wd.one (by decide),fun _=>by simp [gn],by simp [zDh],fun h=>by simp at h⟩
theorem RRep.zero:RRep ⟨⟨[],false⟩,⟨[],false⟩⟩ 0:=⟨WRep.zero,.inr ⟨WRep.zero,rfl⟩⟩
section
variable {a b:zAP} {x y:Rat} {Q:zAP->Prop}
theorem zHB {Q:zAI->Prop} (H:∀ z,WRep z 1->Q z):zFL.f.run Q:=H _ WRep.one
theorem zCP {Q:zAI->Prop} (h:RRep a x) (H:∀ z,WRep z x.den->Q z):(zBy.f a).run Q:=by
 unfold zBy.f
 rcases h.d with hd | ⟨hd,h1⟩
 ·refine W.bd (zC4 hd ?_)
  skip
  rw [if_neg (by simpa using x.den_nz)]
  exact H _ hd
 ·refine W.bd (zC4 hd ?_)
  skip
  rw [if_pos (by simp)]
  refine zHB fun z hz=>H z ?_
  rw [h1];exact hz
theorem zDn {n d:Int} {u v:zAI} (hu:WRep u n) (hv:WRep v d) (hd:d≠0) (lu:u.d.length<=1099511627775) (lv:v.d.length<=1099511627775) (H:∀ z,RRep z (Rat.divInt n d)->Q z):(zAf.f u v).run Q:=by
 have go:∀ (n:Int) (d:Nat) (u v:zAI),WRep u n->WRep v d->d≠0->u.d.length<=1099511627775->v.d.length<=1099511627775->(∀ z,RRep z (Rat.divInt n d)->Q z)->(zAf.j1 u v).run Q:=by
  intro n d u v hu hv hd lu lv H
  have hg0:=Nat.gcd_pos_of_pos_right n.natAbs (Nat.pos_of_ne_zero hd)
  have hnum:=zFR n d hd
  have hden:=zFS n d hd
  unfold zAf.j1
  refine W.bd (zCd hv ?_)
  skip
  refine W.run_if (fun c=>H _ ?_) (fun c=>?_)
  ·have hd1:d=1:=by have h:=of_decide_eq_true c;omega
   subst hd1
   rw [Nat.gcd_one_right] at hnum hden
   refine ⟨?_,.inl ?_⟩
   ·rw [hnum];simpa using hu
   ·rw [hden];simpa using hv
  ·refine zFj (n:=d) hu.wd hv.wd hu.tr hv.tr lu lv hu.abs (by rw [hv.abs];simp) fun g tg wg vg=>?_
   have last1:Nat.gcd n.natAbs d=1->(zAf.j2 u v).run Q:=by
    intro h1
    refine H _ ⟨?_,.inl ?_⟩
    ·rw [hnum,h1];simpa using hu
    ·rw [hden,h1];simpa using hv
   have last2:(zAf.j3 u g v true).run Q:=by
    unfold zAf.j3
    rw [if_pos rfl]
    have hg:g≠[]:=fun e=>by rw [e,zGJ] at vg;omega
    have lg:g.length<=1099511627775:=by
     refine Nat.le_trans (tg.len_le hv.wd wg ?_) lv
     rw [vg,hv.abs]
     have:=Nat.gcd_le_right n.natAbs (Nat.pos_of_ne_zero hd)
     simp;omega
    refine zDo hu.wd wg hu.tr tg hg lu lg fun q1 r1 t1 _ w1 _ e1 _=>zDo hv.wd wg hv.tr tg hg lv lg fun q2 r2 t2 _ w2 _ e2 _=>W.bd (zBq w1 t1 fun z1 hz1 _=>W.bd (zBq w2 t2 fun z2 hz2 _=>H _ ⟨?_,.inl ?_⟩))
    ·simp only at hz1 |-
     rw [hnum]
     have e:(if u.minus=true then - wv q1 else wv q1)=n / (Nat.gcd n.natAbs d:Nat):=by
      obtain ⟨k,hk⟩:((Nat.gcd n.natAbs d:Nat):Int) ∣ n:=Int.ofNat_dvd_left.2 (Nat.gcd_dvd_left _ _)
      have hgz:((Nat.gcd n.natAbs d:Nat):Int)≠0:=by omega
      have hG:(0:Int)<((Nat.gcd n.natAbs d:Nat):Int):=by omega
      have hneg:=hu.neg_iff
      rw [e1,vg,hu.abs]
      generalize ((Nat.gcd n.natAbs d:Nat):Int)=G at *
      subst hk
      rw [Int.mul_ediv_cancel_left _ hgz]
      by_cases hm:u.minus=true
      ·rw [if_pos hm]
       have h1:=hneg.1 hm
       rw [show ((G*k).natAbs:Int)=G*(-k) by rw [Int.mul_neg];omega,Int.mul_ediv_cancel_left _ hgz]
       omega
      ·rw [if_neg hm]
       have h1: ¬ G*k<0:=fun h=>hm (hneg.2 h)
       rw [show ((G*k).natAbs:Int)=G*k by omega,Int.mul_ediv_cancel_left _ hgz]
     rwa [e] at hz1
    ·simp only at hz2 |-
     rw [if_neg (by simp)] at hz2
     rw [hden]
     rw [e2,vg,hv.abs] at hz2
     simpa using hz2
   dsimp only
   refine W.run_if (fun c1=>last2) (fun c1=>W.req_i (by omega) (W.run_if (fun c2=>last2) (fun c2=>?_)))
   unfold zAf.j3
   rw [if_neg (by simp)]
   refine last1 ?_
   obtain ⟨e,he⟩:∃ e,g= [e]:=by
    match hh:g,(show g.length=1 by omega) with
    | [e],_=>exact ⟨e,rfl⟩
   rw [he,show gi [e] 0=e from rfl] at c2
   rw [he,zDh] at vg
   omega
 unfold zAf.f
 refine W.bd (zC4 hv ?_)
 skip
 rw [if_neg (by simpa using hd)]
 rw [zHD n d hd] at H
 refine W.run_if (fun c=>?_) (fun c=>?_)
 ·have hneg:=hv.neg_iff.1 c
  rw [if_pos hneg] at H
  refine zEM hu fun u' hu'=>zEM hv fun v' hv'=>go _ _ _ _ hu' (by rwa [show -d=(d.natAbs:Int) by omega] at hv') (by omega) ?_ ?_ H
  ·have h1:=hu.tr.len_le hu'.wd hu.wd
   have:=hu'.tr.len_le hu.wd hu'.wd (by rw [hu.abs,hu'.abs];omega)
   omega
  ·have:=hv'.tr.len_le hv.wd hv'.wd (by rw [hv.abs,hv'.abs];omega)
   omega
 ·have hneg: ¬ d<0:=fun h=>c (hv.neg_iff.2 h)
  rw [if_neg hneg] at H
  exact go _ _ _ _ hu (by rwa [show d=(d.natAbs:Int) by omega] at hv) (by omega) lu lv H
end
end Go.Proofs.Ytlmpoindlejefaa.E
