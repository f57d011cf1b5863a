/- Joined. -/
import Derived.Test.YtlmpoindlejefaaBM30
import Derived.Test.YtlmpoindlejefaaBM34
import Derived.Test.YtlmpoindlejefaaBM59
set_option linter.unusedVariables false
set_option linter.unusedSimpArgs false
namespace Go.Proofs.Ytlmpoindlejefaa.E
open Go Go.RowKit
section
variable {v b:List zAC} {r c:Nat}
theorem zIm (d:Nat->Rat):quad c (gA v c r) d=sm r fun j=>sm c (fun k=>mxv v c j k*d k)*sm c (fun k=>mxv v c j k*d k):=by
 have h:=err_eq v r c (fun _=>0) d
 have e0:∀ i,gVf v c r (fun _=>0) i=0:=fun i=>by unfold gVf;exact zCz fun j _=>by rw [Rat.mul_zero]
 unfold errQ at h
 rw [zCz (f:=fun i=>gVf v c r (fun _=>0) i*d i) fun i _=>by rw [e0,Rat.zero_mul],zCz (f:=fun _=>(0:Rat)*0) fun j _=>by rw [Rat.mul_zero]] at h
 unfold quad dz
 rw [show sm r (fun j=>sm c (fun k=>mxv v c j k*d k)*sm c (fun k=>mxv v c j k*d k))=sm r (fun j=>(sm c (fun k=>mxv v c j k*d k) - 0)*(sm c (fun k=>mxv v c j k*d k) - 0)) from zAW fun j _=>by rw [show ∀ a:Rat,a - 0=a from fun a=>by grind],h]
 grind
theorem zIl (d:Nat->Rat):0<=quad c (gA v c r) d:=by rw [zIm];exact zIB r _
theorem quad_ker {d:Nat->Rat} (h:quad c (gA v c r) d=0) (i:Nat):dz c (gA v c r i) d=0:=by
 rw [zIm] at h
 have h1:=sm_sq h
 unfold dz gA
 rw [zAW (g:=fun k=>sm r (fun j=>mxv v c j i*mxv v c j k*d k)) fun k _=>(zEL r (d k) _).symm,<- zEd]
 refine zCz fun j hj=>?_
 rw [zAW (g:=fun k=>mxv v c j i*(mxv v c j k*d k)) fun k _=>by grind,zDl,h1 j hj,Rat.mul_zero]
theorem pd_of {V x:Nat->Rat} (h:Sol c (gA v c r) V x):PD c (gA v c r):=by
 refine ⟨zH6 v c r,zIl,fun d hd i hi=>?_⟩
 have s1:=(h x).2 fun _ _=>rfl
 have s2:=(h fun i=>x i+d i).1 fun i hi=>by
  have a:=s1 i hi
  have b:=quad_ker hd i
  unfold dz at a b |-
  rw [zAW (g:=fun j=>gA v c r i j*x j+gA v c r i j*d j) fun j _=>by grind,zER,a,b,Rat.add_zero]
 have:=s2 i hi
 grind
theorem sol_min {V x y:Nat->Rat} {q:Rat} (h:∀ i,i<c->dz c (gA v c r i) x=V i):errQ c (gA v c r) V q x<=errQ c (gA v c r) V q y:=by
 rw [F_exp (n:=c) (V:=V) (q:=q) (zH6 v c r) x y,zCz (f:=fun i=>slp c (gA v c r) V x i*(y i - x i)) fun i hi=>by unfold slp;rw [h i hi];grind]
 have:=zIl (v:=v) (c:=c) (r:=r) fun i=>y i - x i
 grind
end
end Go.Proofs.Ytlmpoindlejefaa.E
namespace Go.Proofs.Ytlmpoindlejefaa.E
open Go Go.RowKit
theorem zGq {a b:zAI} {x y:Int} {Q:Int->Prop} (ha:WRep a x) (hb:WRep b y) (H:∀ r,(r<0/\x<y\/r=0/\x=y\/0<r/\y<x)->Q r):(zCc.f a b).run Q:=by
 unfold zCc.f
 have na:=ha.neg_iff
 have nb:=hb.neg_iff
 have aa:=ha.abs
 have ab:=hb.abs
 refine W.run_if (fun c=>?_) (fun c=>?_)
 ·have c:a.minus=b.minus:=by simpa using c
  refine W.run_if (fun c2=>W.bd (zC3 ha.wd hb.wd ha.tr hb.tr fun r hr=>?_)) (fun c2=>W.bd (zC3 ha.wd hb.wd ha.tr hb.tr fun r hr=>?_))
  ·have h1:=na.1 c2
   have h2:=nb.1 (c ▸ c2)
   unfold Cmp3 at hr
   refine W.req_i (by show _/\_;omega) (H _ ?_)
   omega
  ·have h1: ¬ x<0:=fun h=>c2 (na.2 h)
   have h2: ¬ y<0:=fun h=>c2 (c ▸ nb.2 h)
   unfold Cmp3 at hr
   refine H _ ?_
   omega
 ·have c: ¬ a.minus=b.minus:=by simpa using c
  refine W.run_if (fun c2=>H _ ?_) (fun c2=>H _ ?_)
  ·have h1:=na.1 c2
   have h2: ¬ y<0:=fun h=>c (c2.trans (nb.2 h).symm)
   omega
  ·have h1: ¬ x<0:=fun h=>c2 (na.2 h)
   have h2:y<0:=nb.1 (by cases hb2:b.minus with
    | true=>rfl
    | false=>exact absurd (by rw [hb2];simpa using c2) c)
   omega
theorem zCQ {a b:zAP} {x y:Rat} {Q:Int->Prop} (ha:RRep a x) (hb:RRep b y) (ox:Ok x) (oy:Ok y) (H:∀ r,Tri r x y->Q r):(zBz.f a b).run Q:=by
 obtain ⟨s,hs,sx⟩:=ox
 obtain ⟨t,ht,sy⟩:=oy
 unfold zBz.f
 have lx:=ha.n.len sx.1
 have ly:=hb.n.len sy.1
 refine W.bd (zCP hb fun v hv=>?_)
 have lv:=hv.len (zBD sy)
 refine W.bd (zCA ha.n hv (by omega) (by omega) fun p hp=>W.bd (zCP ha fun u hu=>?_))
 have lu:=hu.len (zBD sx)
 exact W.bd (zCA hb.n hu (by omega) (by omega) fun q hq=>W.bd (zGq hp hq fun r hr=>H r (zIg hr rfl rfl)))
end Go.Proofs.Ytlmpoindlejefaa.E
