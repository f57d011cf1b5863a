/- Joined. -/
import Derived.Test.YtgbmmbfminafnaaKC11
set_option linter.unusedVariables false
set_option linter.unusedSimpArgs false
namespace Go.Proofs.Ytgbmmbfminafnaa.E
open Go Go.RowKit
section
variable {n r:Nat} {l:List api_Flow} {T T':Nat->Int}
open Classical in
theorem Prim.sat' (ok:∀ f ∈ l,okF n f) (h:Prim n l r T):Sat l fun k=>if Cn (l.map fN) r k then (T k:Rat) else 0:=fun f hf=>by
 have hm:(f.A.toNat,f.B.toNat) ∈ l.map fN:=List.mem_map.2 ⟨f,hf,rfl⟩
 have e:Cn (l.map fN) r f.A.toNat ↔ Cn (l.map fN) r f.B.toNat:=⟨fun c=>c.step (.inl hm),fun c=>c.step (.inr hm)⟩
 simp only [<- e]
 split
 ·rename_i c
  have:=h.sat f hf c
  have h2:((f.Put*T f.A.toNat:Int):Rat)=((f.Take*T f.B.toNat:Int):Rat):=by rw [this]
  push_cast at h2
  exact h2
 ·rw [Rat.mul_zero,Rat.mul_zero]
theorem Prim.cross (ok:∀ f ∈ l,okF n f) (h:Prim n l r T) (h':Prim n l r T') {k:Nat} (hc:Cn (l.map fN) r k):T' k*T r=T' r*T k:=by
 have:=(h.sat' ok).prop (lab:=fun k=>k) ok (h'.sat' ok) hc
 simp only [if_pos hc,if_pos Cn.refl] at this
 have h2:((T' k*T r:Int):Rat)=((T' r*T k:Int):Rat):=by push_cast;exact this
 exact Rat.intCast_inj.1 h2
theorem Prim.dvd (ok:∀ f ∈ l,okF n f) (hr:r<n) (h:Prim n l r T) (h':Prim n l r T'):T r ∣ T' r:=by
 have p:=h.pos r hr .refl
 have p':=h'.pos r hr .refl
 obtain ⟨g,hg⟩:∃ g:Nat,g=Int.gcd (T r) (T' r):=⟨_,rfl⟩
 have g0:0<g:=by rw [hg];exact Int.gcd_pos_of_ne_zero_left _ (by omega)
 have d1:(g:Int) ∣ T r:=hg ▸ Int.gcd_dvd_left ..
 have d2:(g:Int) ∣ T' r:=hg ▸ Int.gcd_dvd_right ..
 obtain ⟨a,ha⟩:=d1
 obtain ⟨b,hb⟩:=d2
 have co:Int.gcd a b=1:=by
  have h1:Int.gcd ((g:Int)*a) ((g:Int)*b)=g*Int.gcd a b:=by rw [Int.gcd_mul_left,Int.natAbs_natCast]
  rw [<- ha,<- hb,<- hg] at h1
  exact (Nat.eq_of_mul_eq_mul_left g0 (by omega)).symm
 have da:a ∣ 1:=h.cop a fun k hk hc=>by
  have e:=h.cross ok h' hc
  rw [ha,hb] at e
  have e2:(g:Int)*(T' k*a)=(g:Int)*(b*T k):=by
   rw [<- Int.mul_assoc,Int.mul_comm (g:Int) (T' k),Int.mul_assoc,e,Int.mul_assoc]
  have e3:=Int.eq_of_mul_eq_mul_left (by omega) e2
  have e4:a.natAbs ∣ b.natAbs*(T k).natAbs:=by
   rw [<- Int.natAbs_mul,<- e3,Int.natAbs_mul]
   exact Nat.dvd_mul_left ..
  exact Int.natAbs_dvd_natAbs.1 (Nat.Coprime.dvd_of_dvd_mul_left co e4)
 rw [ha,hb]
 exact Int.mul_dvd_mul (Int.dvd_refl _) (Int.dvd_trans da (Int.one_dvd _))
theorem Prim.uniq (ok:∀ f ∈ l,okF n f) (hr:r<n) (h:Prim n l r T) (h':Prim n l r T') {k:Nat} (hk:k<n) (hc:Cn (l.map fN) r k):T k=T' k:=by
 have p:=h.pos r hr .refl
 have p':=h'.pos r hr .refl
 have e:T r=T' r:=Int.dvd_antisymm (by omega) (by omega) (h.dvd ok hr h') (h'.dvd ok hr h)
 have:=h.cross ok h' hc
 rw [<- e,Int.mul_comm] at this
 exact (Int.eq_of_mul_eq_mul_left (by omega) this).symm
theorem den_ex (w:Nat->Rat):∀ mem:List Nat,∃ D:Nat,0<D/\∀ k ∈ mem,(w k).den ∣ D
 | []=>⟨1,by omega,fun k hk=>by simp at hk⟩
 | m ::mem=>by
  obtain ⟨D,h0,h1⟩:=den_ex w mem
  refine ⟨(w m).den*D,Nat.mul_pos (w m).den_pos h0,fun k hk=>?_⟩
  rcases List.mem_cons.1 hk with rfl | hk
  ·exact Nat.dvd_mul_right ..
  ·exact Nat.dvd_trans (h1 k hk) (Nat.dvd_mul_left ..)
theorem gcd_ex (x:Nat->Int):∀ mem:List Nat,∃ G:Nat,(∀ k ∈ mem,(G:Int) ∣ x k)/\∀ d:Int,(∀ k ∈ mem,d ∣ x k)->d ∣ G
 | []=>⟨0,fun k hk=>by simp at hk,fun d _=>⟨0,by simp⟩⟩
 | m ::mem=>by
  obtain ⟨G,h0,h1⟩:=gcd_ex x mem
  refine ⟨Int.gcd (x m) G,fun k hk=>?_,fun d hd=>?_⟩
  ·rcases List.mem_cons.1 hk with rfl | hk
   ·exact Int.gcd_dvd_left ..
   ·exact Int.dvd_trans (Int.gcd_dvd_right ..) (h0 k hk)
  ·have a:=hd m List.mem_cons_self
   have b:=h1 d fun k hk=>hd k (List.mem_cons_of_mem _ hk)
   rw [<- Int.natAbs_dvd,Int.natCast_dvd_natCast]
   exact Nat.dvd_gcd (Int.natAbs_dvd_natAbs.2 a) (Int.natAbs_dvd_natAbs.2 b)
open Classical in
theorem prim_ex (ok:∀ f ∈ l,okF n f) (hb:Bal n l) (hr:r<n):∃ T,Prim n l r T:=by
 obtain ⟨v,hv,hs⟩:=hb
 obtain ⟨D,D0,D1⟩:=den_ex v ((List.range n).filter fun k=>Cn (l.map fN) r k)
 obtain ⟨G,G0,G1⟩:=gcd_ex (xwh v D) ((List.range n).filter fun k=>Cn (l.map fN) r k)
 have hm:∀ k,k ∈ (List.range n).filter (fun k=>decide (Cn (l.map fN) r k)) ↔ k<n/\Cn (l.map fN) r k:=fun k=>by rw [List.mem_filter,List.mem_range,decide_eq_true_eq]
 obtain ⟨_,T,h,_⟩:=prim_of (l:=l) (r:=r) (n:=n) (w:=v) (List.length_pos_of_mem ((hm r).2 ⟨hr,.refl⟩)) hm ok hs D1 (fun k hk=>xwh_pos (D1 k hk) D0 (hv k ((hm k).1 hk).1)) G0 G1
 exact ⟨T,h⟩
theorem FlowsR.uniq {n:Int} {e e':Int} (h:FlowsR n l e) (h':FlowsR n l e'):e=e':=by
 rcases h with ⟨h1,h2⟩ | ⟨h1,h2⟩ | ⟨h1,h2,h3⟩ <;> rcases h' with ⟨g1,g2⟩ | ⟨g1,g2⟩ | ⟨g1,g2,g3⟩ <;> first | omega | exact absurd h2 g3 | exact absurd g2 h3 | (have:=h2.len;omega) | (have:=g2.len;omega)
theorem FlowsR.no {n:Int} {e:Int} (h:FlowsR n l e) (h0:e≠0) (g:Good n l):False:=by
 rcases h with ⟨h1,h2⟩ | ⟨h1,h2⟩ | ⟨h1,h2,h3⟩
 ·exact h0 h1
 ·have:=g.len;omega
 ·exact h3 g
theorem RepOk.uniq {o o':List Int×Int×Int} (ok:∀ f ∈ l,okF n f) (h:RepOk n l o T) (h':RepOk n l o' T'):o=o':=by
 obtain ⟨h1,h2,h3,h4,h5⟩:=h
 obtain ⟨g1,g2,g3,g4,g5⟩:=h'
 refine Prod.ext ?_ (h3.trans g3.symm)
 exact list_gd_ext (by rw [h4,g4]) fun k hk=>by
  rw [h4] at hk
  rw [h5 k hk,g5 k hk,(h1 k hk).uniq ok hk (g1 k hk) hk .refl]
theorem RepR.uniq {n:Int} {o o':List Int×Int×Int} (h:RepR n l o) (h':RepR n l o'):o=o':=by
 rcases h with ⟨e,e1,e2,rfl⟩ | ⟨g,h⟩
 ·rcases h' with ⟨e',e1',e2',rfl⟩ | ⟨g',h'⟩
  ·rw [e2.uniq e2']
  ·exact (e2.no e1 g').elim
 rcases h' with ⟨e',e1',e2',rfl⟩ | ⟨_,h'⟩
 ·exact (e2'.no e1' g).elim
 rcases h with ⟨i,i1,i2,i3,rfl⟩ | ⟨hb,h⟩
 ·rcases h' with ⟨j,j1,j2,j3,rfl⟩ | ⟨hb',h'⟩
  ·rcases Nat.lt_trichotomy i j with c | c | c
   ·exact absurd (j3 i c) i2
   ·rw [c]
   ·exact absurd (i3 j c) j2
  ·exact absurd (hb' i i1) i2
 rcases h' with ⟨j,j1,j2,j3,rfl⟩ | ⟨_,h'⟩
 ·exact absurd (hb j j1) j2
 have no:∀ {o:List Int×Int×Int} {r k:Nat} {T T':Nat->Int},r<n.toNat->Prim n.toNat l r T->k<n.toNat->Cn (l.map fN) r k->64<T k->RepOk n.toNat l o T'->False:=fun {o r k T T'} h1 h2 h3 h4 h5 h6=>by
  have:=h2.uniq g.ok h1 (h6.1 r h1) h3 h4
  have:=h6.2.1 k h3
  omega
 rcases h with ⟨r,T,k,a1,a2,a3,a4,a5,rfl⟩ | ⟨T,hT⟩
 ·rcases h' with ⟨r',T',k',b1,b2,b3,b4,b5,rfl⟩ | ⟨T',hT'⟩
  ·rfl
  ·exact (no a1 a2 a3 a4 a5 hT').elim
 ·rcases h' with ⟨r',T',k',b1,b2,b3,b4,b5,rfl⟩ | ⟨T',hT'⟩
  ·exact (no b1 b2 b3 b4 b5 hT).elim
  ·exact hT.uniq g.ok hT'
theorem OrdR.uniq {n:Int} {o o':List Int×Bool×Int} (h:OrdR n l o) (h':OrdR n l o'):o=o':=by
 obtain ⟨a,ha,h⟩:=h
 obtain ⟨a',ha',h'⟩:=h'
 obtain rfl:=ha.uniq ha'
 rcases h with ⟨h1,rfl⟩ | ⟨T,g,hT,hb,h⟩
 ·rcases h' with ⟨h1',rfl⟩ | ⟨T',g',hT',hb',h'⟩
  ·rfl
  ·rw [hT'.2.2.1] at h1;exact absurd rfl h1
 ·rcases h' with ⟨h1',rfl⟩ | ⟨T',g',hT',hb',h'⟩
  ·rw [hT.2.2.1] at h1';exact absurd rfl h1'
  ·have e:isum n.toNat T=isum n.toNat T':=isum_congr fun k hk=>by rw [<- hT.2.2.2.2 k hk,<- hT'.2.2.2.2 k hk]
   rw [e] at h
   rcases h with ⟨c,rfl⟩ | ⟨c,rfl⟩ <;> rcases h' with ⟨c',rfl⟩ | ⟨c',rfl⟩ <;> first | rfl | omega
theorem PeakR.uniq {n:Int} {os:List Int} {o o':List Int×List Int×Int} (h:PeakR n l os o) (h':PeakR n l os o'):o=o':=by
 rcases h with ⟨e,e1,e2,rfl⟩ | ⟨g,rfl⟩ <;> rcases h' with ⟨e',e1',e2',rfl⟩ | ⟨g',rfl⟩
 ·rw [e2.uniq e2']
 ·exact (e2.no e1 g').elim
 ·exact (e2'.no e1' g).elim
 ·rfl
theorem Bl.sz {m:Nat} {v:Nat->Rat} (ok:∀ f ∈ l,okF n f) (hs:Sat l v) (h1:v m=1):∀ {i k:Nat},Bl (l.map fN) i m k->Sz (6*i+1) (v k)
 | 0,k,h=>by cases h;rw [h1];exact Sz.one
 | i+1,k,h=>by
  rcases h with h | ⟨k',g1,g2⟩
  ·exact (Bl.sz ok hs h1 h).mono (by omega)
  ·have ih:=Bl.sz ok hs h1 g1
   have step:∀ {a b:Int} {x y:Rat},1<=a->a<=60->1<=b->b<=60->(a:Rat)*x=b*y->Sz (6*i+1) x->Sz (6*(i+1)+1) y:=fun {a b x y} ha ha2 hb hb2 e sx=>by
    have hbp:(0:Rat)<b:=by exact_mod_cast (by omega:(0:Int)<b)
    have hy:y=x*(Rat.divInt a b):=by
     rw [Rat.divInt_eq_div,Rat.div_def,<- Rat.mul_assoc,Rat.mul_comm x,e]
     grind
    rw [hy]
    exact (sx.mul (Sz.over (s:=6) (by omega) (by omega) (by omega))).mono (by omega)
   rcases g2 with g2 | g2 <;> obtain ⟨f,f1,rfl,rfl⟩:=es_mem g2
   ·have o:=ok f f1
    exact step o.p0 o.p1 o.t0 o.t1 (hs f f1) ih
   ·have o:=ok f f1
    exact step o.t0 o.t1 o.p0 o.p1 (hs f f1).symm ih
theorem Cn.sz {m k:Nat} {v:Nat->Rat} (ok:∀ f ∈ l,okF n f) (hs:Sat l v) (hm:m<n) (h1:v m=1) (hc:Cn (l.map fN) m k):Sz (6*n+1) (v k):=Bl.sz ok hs h1 (hc.all (es_lt ok) hm)
end
end Go.Proofs.Ytgbmmbfminafnaa.E
namespace Go.Proofs.Ytgbmmbfminafnaa.E
open Go Go.RowKit
theorem ref01_cmp0_run {a b:ref01_whole} {x y:Int} {Q:Int->Prop} (ha:WRep a x) (hb:WRep b y) (H:∀ r,(r=0 ↔ x=y)->Q r):(ref01_whole_cmp.f a b).run Q:=by
 unfold ref01_whole_cmp.f
 have na:=ha.neg_iff
 have nb:=hb.neg_iff
 have aa:=ha.abs
 have ab:=hb.abs
 refine W.run_if (fun c=>?_) (fun c=>?_)
 ·have c:a.minus=b.minus:=by simpa using c
  refine W.run_if (fun c2=>W.bd (ref01_order_run ha.wd hb.wd ha.tr hb.tr fun r hr=>?_)) (fun c2=>W.bd (ref01_order_run ha.wd hb.wd ha.tr hb.tr fun r hr=>?_))
  ·have h1:=na.1 c2
   have h2:=nb.1 (c ▸ c2)
   unfold Cmp3 at hr
   refine W.req_i (by show _/\_;omega) (H _ ?_)
   omega
  ·have h1: ¬ x<0:=fun h=>c2 (na.2 h)
   have h2: ¬ y<0:=fun h=>c2 (c ▸ nb.2 h)
   unfold Cmp3 at hr
   refine H _ ?_
   omega
 ·have c: ¬ a.minus=b.minus:=by simpa using c
  refine W.run_if (fun c2=>H _ ?_) (fun c2=>H _ ?_)
  ·have h1:=na.1 c2
   have h2: ¬ y<0:=fun h=>c (c2.trans (nb.2 h).symm)
   omega
  ·have h1: ¬ x<0:=fun h=>c2 (na.2 h)
   have h2:y<0:=nb.1 (by cases hb2:b.minus with
    | true=>rfl
    | false=>exact absurd (by rw [hb2];simpa using c2) c)
   omega
theorem rat_cross {x y:Rat} :x.num*(y.den:Int)=y.num*(x.den:Int) ↔ x=y:=by
 have h:=Rat.divInt_eq_divInt_iff (n₁:=x.num) (n₂:=y.num) (den_ne x) (den_ne y)
 rw [Rat.num_divInt_den,Rat.num_divInt_den] at h
 exact h.symm
theorem ref01_Cmp0_run {a b:ref01_Q} {x y:Rat} {Q:Int->Prop} (ha:RRep a x) (hb:RRep b y) (ox:Ok x) (oy:Ok y) (H:∀ r,(r=0 ↔ x=y)->Q r):(ref01_Q_Cmp.f a b).run Q:=by
 obtain ⟨s,hs,sx⟩:=ox
 obtain ⟨t,ht,sy⟩:=oy
 unfold ref01_Q_Cmp.f
 have lx:=ha.n.len sx.1
 have ly:=hb.n.len sy.1
 refine W.bd (ref01_den_run hb fun v hv=>?_)
 have lv:=hv.len (den_len sy)
 refine W.bd (ref01_mul_run ha.n hv (by omega) (by omega) fun p hp=>W.bd (ref01_den_run ha fun u hu=>?_))
 have lu:=hu.len (den_len sx)
 exact W.bd (ref01_mul_run hb.n hu (by omega) (by omega) fun q hq=>W.bd (ref01_cmp0_run hp hq fun r hr=>H r (hr.trans rat_cross)))
section
variable {a b:ref01_Q} {x y:Rat} {Q:ref01_Q->Prop}
theorem ref01_Half_run {p q:Int} (hp:1<=p) (hp2:p<=60) (hq:1<=q) (hq2:q<=60) (H:∀ z,RRep z (Rat.divInt p q)->Sz 6 (Rat.divInt p q)->Q z):(ref01_Half.f p q).run Q:=by
 unfold ref01_Half.f
 refine W.bd (ref01_ofInt_run (by show _/\_;omega) fun u hu=>W.bd (ref01_ofInt_run (by show _/\_;omega) fun v hv=>W.bd (ref01_ratio_run hu hv (by omega) ?_ ?_ fun z hz=>H z hz (Sz.over (by omega) (by omega) (by omega)))))
 ·have:=hu.len (s:=6) (by omega)
  omega
 ·have:=hv.len (s:=6) (by omega)
  omega
theorem ref01_Den_run (ha:RRep a x) (H:∀ z,RRep z (((x.den:Int)):Rat)->Q z):(ref01_Q_Den.f a).run Q:=by
 unfold ref01_Q_Den.f
 exact W.bd (ref01_den_run ha fun u hu=>W.bd (ref01_one_run fun v hv=>H _ (RRep.int hu hv)))
theorem ref01_Gcd_run {m n:Int} {s t:Nat} (ha:RRep a (m:Rat)) (hb:RRep b (n:Rat)) (hs:s<=1000000) (ht:t<=1000000) (sm:m.natAbs<2 ^ s) (sn:n.natAbs<2 ^ t) (H:∀ z,RRep z (((Nat.gcd m.natAbs n.natAbs:Nat):Int):Rat)->Q z):(ref01_Gcd.f a b).run Q:=by
 unfold ref01_Gcd.f
 have an:=ha.n
 have bn:=hb.n
 rw [Rat.num_intCast] at an bn
 have la:=an.len sm
 have lb:=bn.len sn
 refine ref01_divisor_run an.wd bn.wd an.tr bn.tr (by omega) (by omega) an.abs bn.abs fun g tg wg vg=>W.bd (ref01_signed_run wg tg fun u hu _=>W.bd (ref01_one_run fun v hv=>H _ ?_))
 rw [if_neg (by simp),vg] at hu
 exact RRep.int hu hv
theorem ref01_IsInt_run {n:Int} {Q:Bool->Prop} (ha:RRep a (n:Rat)) (H:Q true):(ref01_Q_IsInt.f a).run Q:=by
 unfold ref01_Q_IsInt.f
 refine W.bd (ref01_den_run ha fun u hu=>W.bd (ref01_one_run fun v hv=>W.bd (ref01_cmp0_run hu hv fun r hr=>?_)))
 rw [Rat.den_intCast] at hr
 obtain rfl:r=0:=hr.2 rfl
 exact H
theorem ref01_Small_run {n:Int} {Q:Int×Bool->Prop} (ha:RRep a (n:Rat)) (H:∀ v b,(b=true->v=n)->(b=true ↔ -9223372036854775808<=n/\n<=9223372036854775807)->Q (v,b)):(ref01_Q_Small.f a).run Q:=by
 unfold ref01_Q_Small.f
 have an:=ha.n
 rw [Rat.num_intCast] at an
 refine W.bd (ref01_small_run an fun v b h1 h2=>W.run_if (fun c=>W.bd (ref01_IsInt_run ha ?_)) fun c=>?_)
 ·exact H v true (fun _=>h1 c) ⟨fun _=>h2.1 c,fun _=>rfl⟩
 ·exact H v false (fun h=>(by cases h)) ⟨fun h=>(by cases h),fun h=>absurd (h2.2 h) c⟩
theorem Sz.int {n:Int} {s:Nat} (h:n.natAbs<2 ^ s) (h1:1<=s):Sz s (n:Rat):=by
 unfold Sz
 rw [Rat.num_intCast,Rat.den_intCast]
 refine ⟨h,?_⟩
 have:=Nat.pow_le_pow_right (n:=2) (by omega) h1
 omega
theorem nat_ne {g:Nat} (hg:0<g):(((g:Nat):Int):Rat)≠0:=fun z=>by
 have:=Rat.intCast_inj.1 (show ((g:Int):Rat)=((0:Int):Rat) from z)
 omega
theorem lcm_rat {D d g:Nat} (hg:0<g) (h:g ∣ d):((D:Int):Rat)*((d:Int):Rat) / ((g:Int):Rat)=(((D*(d / g):Nat):Int):Rat):=by
 obtain ⟨e,rfl⟩:=h
 rw [Nat.mul_div_cancel_left _ hg,Rat.div_def]
 have:=nat_ne hg
 push_cast at this |-
 grind
end
section
variable {N r:Nat} {many:List ref01_Q} {part:List Int} {m:Nat->Rat} {p:Int} {Q:ref01_Q->Prop}
theorem ref22_least_run (hN:N<=10) (h1:many.length=N) (h2:part.length=N) (hm:∀ k,k<N->RRep (gd many k) (m k)/\Sz 61 (m k)/\0<m k) (hr:r<N) (hp:gd part r=p)
  (H:∀ z (D G:Nat),RRep z (((D:Int):Rat) / ((G:Int):Rat))->Sz 2000 (((D:Int):Rat) / ((G:Int):Rat))->0<D->0<G->(∀ k,k<N->gd part k=p->(m k).den ∣ D)->(∀ k,k<N->gd part k=p->(G:Int) ∣ xwh m D k)->(∀ d:Int,(∀ k,k<N->gd part k=p->d ∣ xwh m D k)->d ∣ G)->Q z):(ref22_least.f many part p).run Q:=by
 obtain ⟨e7,hs⟩:∃ e7:Nat,e7=700:=⟨_,rfl⟩
 unfold ref22_least.f
 refine W.bd (ref01_Int_run (by show _/\_;omega) fun one hone=>?_)
 refine W.loop_c (fun s:ref01_Q×Int=>∃ t D:Nat,s.2=t/\t<=N/\RRep s.1 ((D:Int):Rat)/\0<D/\D<2 ^ (61*t+1)/\∀ i,i<t->gd part i=p->(m i).den ∣ D) (fun s=>N - s.2.toNat) ⟨0,1,rfl,Nat.zero_le _,hone,by omega,by simp,fun i hi=>by omega⟩ ?_
 rintro ⟨zd,_⟩ P1 ⟨t,D,rfl,ht,zD,D0,D1,D2⟩ hgo hbrk hout
 simp only at zD hgo |-
 unfold ref22_least.l2
 simp only [gi_gd,Int.toNat_natCast]
 have bD:D<2 ^ e7:=bits_mono D1 (by omega)
 have sD:Sz e7 ((D:Int):Rat):=Sz.int (by rw [Int.natAbs_natCast];exact bD) (by omega)
 refine W.run_if (fun c=>W.req_i (by omega) (W.run_if (fun cp=>W.req_i (by omega) ?_) fun cp=>?_)) fun c=>hbrk _ ?_
 ·obtain ⟨q1,q2,q3⟩:=hm t (by omega)
  have dp:=(m t).den_pos
  have dz':(m t).den<2 ^ 61:=q2.2
  have bd:(m t).den<2 ^ e7:=bits_mono dz' (by omega)
  have sd:Sz e7 (((m t).den:Int):Rat):=Sz.int (by rw [Int.natAbs_natCast];exact bd) (by omega)
  have g0:0<Nat.gcd D (m t).den:=Nat.gcd_pos_of_pos_left _ D0
  have gle:Nat.gcd D (m t).den<=(m t).den:=Nat.gcd_le_right _ dp
  have sg:Sz e7 (((Nat.gcd D (m t).den:Nat):Int):Rat):=Sz.int (by rw [Int.natAbs_natCast];exact Nat.lt_of_le_of_lt gle bd) (by omega)
  refine W.bd (ref01_Den_run q1 fun u hu=>W.bd (ref01_Mul_run zD hu (sD.ok (by omega)) (sd.ok (by omega)) fun v hv=>W.bd (ref01_Gcd_run zD hu (s:=e7) (t:=e7) (by omega) (by omega) (by rw [Int.natAbs_natCast];exact bD) (by rw [Int.natAbs_natCast];exact bd) fun w hw=>?_)))
  simp only [Int.natAbs_natCast] at hw
  refine W.bd (ref01_Div_run hv hw ((sD.mul sd).ok (by omega)) (sg.ok (by omega)) (nat_ne g0) fun y hy=>?_)
  rw [lcm_rat g0 (Nat.gcd_dvd_right _ _)] at hy
  obtain ⟨l1,l2,l3,l4⟩:=lcm_step (D:=D) (d:=(m t).den) rfl D0 dp
  unfold ref22_least.j4
  refine hgo _ ⟨t+1,_,by simp,by omega,hy,l1,?_,fun i hi hpi=>?_⟩ (by simp;omega)
  ·refine Nat.lt_of_le_of_lt l4 ?_
   have:=Nat.mul_lt_mul'' D1 dz'
   rwa [<- Nat.pow_add,show 61*t+1+61=61*(t+1)+1 by omega] at this
  ·by_cases e:i=t
   ·rw [e];exact l3
   ·exact Nat.dvd_trans (D2 i (by omega) hpi) l2
 ·unfold ref22_least.j4
  refine hgo _ ⟨t+1,D,by simp,by omega,zD,D0,bits_mono D1 (by omega),fun i hi hpi=>?_⟩ (by simp;omega)
  by_cases e:i=t
  ·exact absurd (e ▸ hpi) cp
  ·exact D2 i (by omega) hpi
 obtain rfl:t=N:=by omega
 clear hgo hbrk hout D1
 have xr:∀ k,k<t->gd part k=p->m k*((D:Int):Rat)=((xwh m D k:Int):Rat):=fun k hk hpk=>by rw [xwh_rat (D2 k hk hpk),Rat.intCast_natCast]
 have xb:∀ k,k<t->(xwh m D k).natAbs<2 ^ (61+e7):=fun k hk=>by
  unfold xwh
  have h3:=(hm k hk).2.1.1
  have h4:(D / (m k).den:Nat)<2 ^ e7:=Nat.lt_of_le_of_lt (Nat.div_le_self ..) bD
  have:=bits_mul (b:=((D / (m k).den:Nat):Int)) h3 (by rw [Int.natAbs_natCast];exact h4)
  exact this
 have xp:=xwh_pos (D2 r hr hp) D0 (hm r hr).2.2
 unfold ref22_least.j1
 refine W.loop_c (fun s:ref01_Q×Int=>∃ i G:Nat,s.2=i/\i<=t/\RRep s.1 ((G:Int):Rat)/\G<2 ^ (61+e7)/\(∀ k,k<i->gd part k=p->(G:Int) ∣ xwh m D k)/\∀ d:Int,(∀ k,k<i->gd part k=p->d ∣ xwh m D k)->d ∣ G) (fun s=>t - s.2.toNat) ⟨0,0,rfl,Nat.zero_le _,RRep.zero,Nat.two_pow_pos _,fun i hi=>by omega,fun d _=>⟨0,by simp⟩⟩ ?_
 rintro ⟨zg,_⟩ P2 ⟨i,G,rfl,hi,zG,bG,G1,G2⟩ hgo hbrk hout
 simp only at zG hgo |-
 unfold ref22_least.l1
 simp only [gi_gd,Int.toNat_natCast]
 refine W.run_if (fun c=>W.req_i (by omega) (W.run_if (fun cp=>W.req_i (by omega) ?_) fun cp=>?_)) fun c=>hbrk _ ?_
 ·obtain ⟨q1,q2,q3⟩:=hm i (by omega)
  refine W.bd (ref01_Mul_run q1 zD (q2.ok (by omega)) (sD.ok (by omega)) fun u hu=>?_)
  rw [xr i (by omega) cp] at hu
  refine W.bd (ref01_Gcd_run zG hu (s:=61+e7) (t:=61+e7) (by omega) (by omega) (by rw [Int.natAbs_natCast];exact bG) (xb i (by omega)) fun w hw=>?_)
  rw [Int.natAbs_natCast] at hw
  have xpi:=xwh_pos (D2 i (by omega) cp) D0 q3
  unfold ref22_least.j3
  refine hgo _ ⟨i+1,_,by simp,by omega,hw,?_,fun k hk hpk=>?_,fun d hd=>?_⟩ (by simp;omega)
  ·exact Nat.lt_of_le_of_lt (Nat.gcd_le_right _ (by omega)) (xb i (by omega))
  ·by_cases e:k=i
   ·rw [e]
    exact Int.dvd_trans (Int.natCast_dvd_natCast.2 (Nat.gcd_dvd_right _ _)) (Int.natAbs_dvd.2 (Int.dvd_refl _))
   ·exact Int.dvd_trans (Int.natCast_dvd_natCast.2 (Nat.gcd_dvd_left _ _)) (G1 k (by omega) hpk)
  ·have h3:=G2 d fun k hk hpk=>hd k (by omega) hpk
   have h4:=hd i (by omega) cp
   rw [<- Int.natAbs_dvd,Int.natCast_dvd_natCast]
   exact Nat.dvd_gcd (by have:=Int.natAbs_dvd_natAbs.2 h3;rwa [Int.natAbs_natCast] at this) (Int.natAbs_dvd_natAbs.2 h4)
 ·unfold ref22_least.j3
  refine hgo _ ⟨i+1,G,by simp,by omega,zG,bG,fun k hk hpk=>?_,fun d hd=>G2 d fun k hk hpk=>hd k (by omega) hpk⟩ (by simp;omega)
  by_cases e:k=i
  ·exact absurd (e ▸ hpk) cp
  ·exact G1 k (by omega) hpk
 obtain rfl:i=t:=by omega
 have G0:0<G:=by
  rcases Nat.eq_zero_or_pos G with e | e
  ·have:=G1 r hr hp
   rw [e] at this
   have:=Int.zero_dvd.1 (by simpa using this)
   omega
  ·exact e
 have sG:Sz (61+e7) ((G:Int):Rat):=Sz.int (by rw [Int.natAbs_natCast];exact bG) (by omega)
 unfold ref22_least.j2
 exact W.bd (ref01_Div_run zD zG (sD.ok (by omega)) (sG.ok (by omega)) (nat_ne G0) fun z hz=>H z D G hz ((sD.div sG (nat_ne G0)).mono (by omega)) D0 G0 D2 G1 G2)
end
end Go.Proofs.Ytgbmmbfminafnaa.E
