/- Arithmetic of matrices: the program. -/
import Derived.Test.YtlmpoindlejefaaGreatAM56
set_option linter.unusedVariables false
set_option linter.unusedSimpArgs false
namespace Go.Proofs.YtlmpoindlejefaaGreat.E
open Go Go.RowKit
def addS (m n:api_Mat):ToldM:=if ¬ matOk m then (⟨0,0,[]⟩,1) else if ¬ matOk n then (⟨0,0,[]⟩,1) else if m.R≠n.R then (⟨0,0,[]⟩,8) else if m.C≠n.C then (⟨0,0,[]⟩,8) else giveS m.R.toNat m.C.toNat fun i j=>mxv m.V m.C.toNat i j+mxv n.V n.C.toNat i j
def mulS (m n:api_Mat):ToldM:=if ¬ matOk m then (⟨0,0,[]⟩,1) else if ¬ matOk n then (⟨0,0,[]⟩,1) else if m.C≠n.R then (⟨0,0,[]⟩,8) else giveS m.R.toNat n.C.toNat (mulM m.C.toNat (mxv m.V m.C.toNat) (mxv n.V n.C.toNat))
def scaleS (m:api_Mat) (x:api_Rat):ToldM:=if ¬ matOk m then (⟨0,0,[]⟩,1) else if ¬ valid x then (⟨0,0,[]⟩,1) else giveS m.R.toNat m.C.toNat fun i j=>mxv m.V m.C.toNat i j*ratOf x
def turnS (m:api_Mat):ToldM:=if ¬ matOk m then (⟨0,0,[]⟩,1) else giveS m.C.toNat m.R.toNat fun k i=>mxv m.V m.C.toNat i k
def powS (m:api_Mat) (k:Int):ToldM:=if ¬ matOk m then (⟨0,0,[]⟩,1) else if k<0 then (⟨0,0,[]⟩,1) else if k>60 then (⟨0,0,[]⟩,1) else if m.R≠m.C then (⟨0,0,[]⟩,8) else giveS m.R.toNat m.C.toNat (powM m.R.toNat (mxv m.V m.C.toNat) k.toNat)
theorem nn {p:Prop} (h:p): ¬ ¬ p:=fun k=>k h
theorem matOk.nat {m:api_Mat} (h:matOk m):∃ r c:Nat,m.R=r/\m.C=c/\r<=12/\c<=12:=by
 have h1:=h.1
 have h2:=h.2.1
 obtain ⟨r,hR⟩:=Int.eq_ofNat_of_zero_le h1.1
 obtain ⟨c,hC⟩:=Int.eq_ofNat_of_zero_le h2.1
 exact ⟨r,c,hR,hC,by omega,by omega⟩
section
variable {m n:api_Mat} {x:api_Rat} {Q:ToldM->Prop}
theorem mat_both_run {Q:Int->Prop} (hm:m.V.length<=281474976710656) (hn:n.V.length<=281474976710656) (h0:matOk m->matOk n->Q 0) (h1: ¬ matOk m->Q 1) (h2:matOk m->¬ matOk n->Q 1):(mat_both.f m n).run Q:=by
 unfold mat_both.f
 refine W.bd (mat_Validate_run hm (fun ok=>?_) (fun no=>?_))
 ·rw [if_neg (by decide)]
  exact W.bd (mat_Validate_run hn (fun ok2=>h0 ok ok2) (fun no=>h2 ok no))
 ·rw [if_pos (by decide)];exact h1 no
theorem mat_Add_run (hm:m.V.length<=281474976710656) (hn:n.V.length<=281474976710656) (H:Q (addS m n)):(mat_Add.f m n).run Q:=by
 unfold addS at H
 unfold mat_Add.f
 refine W.bd (mat_both_run hm hn (fun ok1 ok2=>?_) (fun no=>?_) (fun ok1 no=>?_))
 ·rw [if_neg (nn ok1),if_neg (nn ok2)] at H
  rw [if_neg (by decide)]
  refine W.run_if (fun c1=>by rw [if_pos c1] at H;exact H) (fun c1=>W.run_if (fun c2=>by rw [if_neg c1,if_pos c2] at H;exact H) (fun c2=>?_))
  rw [if_neg c1,if_neg c2] at H
  obtain ⟨r,c,hR,hC,hr,hc⟩:=ok1.nat
  have hR2:n.R=r:=by omega
  have hC2:n.C=c:=by omega
  rw [hR,hC,hC2,Int.toNat_natCast,Int.toNat_natCast] at H
  exact W.bd (qm_Of_run ok1 hR hC fun X x1 x2=>W.bd (qm_Of_run ok2 hR2 hC2 fun Y y1 y2=>W.bd (qm_Add_run (s:=40) x1 x2 y2 (by omega) (by omega) (by omega) (fun i j hi hj=>((ok1.at hR hC).2 i j hi hj).sz) (fun i j hi hj=>((ok2.at hR2 hC2).2 i j hi hj).sz) fun o o1 o2=>W.bd (qm_Out_run o2 o1 (by omega) (by omega) H))))
 ·rw [if_pos no] at H
  rw [if_pos (by decide)];exact H
 ·rw [if_neg (nn ok1),if_pos no] at H
  rw [if_pos (by decide)];exact H
theorem mat_Mul_run (hm:m.V.length<=281474976710656) (hn:n.V.length<=281474976710656) (H:Q (mulS m n)):(mat_Mul.f m n).run Q:=by
 unfold mulS at H
 unfold mat_Mul.f
 refine W.bd (mat_both_run hm hn (fun ok1 ok2=>?_) (fun no=>?_) (fun ok1 no=>?_))
 ·rw [if_neg (nn ok1),if_neg (nn ok2)] at H
  rw [if_neg (by decide)]
  refine W.run_if (fun c1=>by rw [if_pos c1] at H;exact H) (fun c1=>?_)
  rw [if_neg c1] at H
  obtain ⟨r,k,hR,hC,hr,hk⟩:=ok1.nat
  obtain ⟨k',c,hR2,hC2,_,hc⟩:=ok2.nat
  obtain rfl:k'=k:=by omega
  rw [hR,hC,hC2,Int.toNat_natCast,Int.toNat_natCast,Int.toNat_natCast] at H
  exact W.bd (qm_Of_run ok1 hR hC fun X x1 x2=>W.bd (qm_Of_run ok2 hR2 hC2 fun Y y1 y2=>W.bd (qm_Mul_run (s:=40) x2 y1 y2 hr hk hc (by omega) (fun i j hi hj=>((ok1.at hR hC).2 i j hi hj).sz) (fun i j hi hj=>((ok2.at hR2 hC2).2 i j hi hj).sz) fun o o1 o2=>W.bd (qm_Out_run o2 o1 (by omega) (by omega) H))))
 ·rw [if_pos no] at H
  rw [if_pos (by decide)];exact H
 ·rw [if_neg (nn ok1),if_pos no] at H
  rw [if_pos (by decide)];exact H
theorem mat_Scale_run (hm:m.V.length<=281474976710656) (H:Q (scaleS m x)):(mat_Scale.f m x).run Q:=by
 unfold scaleS at H
 unfold mat_Scale.f
 refine W.bd (mat_Validate_run hm (fun ok=>?_) (fun no=>?_))
 ·rw [if_neg (nn ok)] at H
  rw [if_neg (by decide)]
  refine W.bd (num_Valid_run (W.run_if (fun c=>?_) (fun c=>?_)))
  ·have hx:=of_decide_eq_true c
   rw [if_neg (nn hx)] at H
   obtain ⟨r,c,hR,hC,hr,hc⟩:=ok.nat
   rw [hR,hC,Int.toNat_natCast,Int.toNat_natCast] at H
   exact W.bd (qm_Of_run ok hR hC fun X x1 x2=>W.bd (num_Of_run hx fun y hy=>W.bd (qm_Scale_run (s:=40) x1 x2 hy (by omega) (by omega) (by omega) (fun i j hi hj=>((ok.at hR hC).2 i j hi hj).sz) hx.sz fun o o1 o2=>W.bd (qm_Out_run o2 o1 (by omega) (by omega) H))))
  ·rw [if_pos fun h=>c (decide_eq_true h)] at H
   exact H
 ·rw [if_pos no] at H
  rw [if_pos (by decide)];exact H
theorem mat_Power_run {k:Int} (hm:m.V.length<=281474976710656) (H:Q (powS m k)):(mat_Power.f m k).run Q:=by
 unfold powS at H
 unfold mat_Power.f
 refine W.bd (mat_Validate_run hm (fun ok=>?_) (fun no=>?_))
 ·rw [if_neg (nn ok)] at H
  rw [if_neg (by decide)]
  refine W.run_if (fun c1=>by rw [if_pos c1] at H;exact H) (fun c1=>W.run_if (fun c2=>by rw [if_neg c1,if_pos c2] at H;exact H) (fun c2=>W.run_if (fun c3=>by rw [if_neg c1,if_neg c2,if_pos c3] at H;exact H) (fun c3=>?_)))
  rw [if_neg c1,if_neg c2,if_neg c3] at H
  obtain ⟨r,c,hR,hC,hr,hc⟩:=ok.nat
  obtain rfl:c=r:=by omega
  obtain ⟨k,rfl⟩:=Int.eq_ofNat_of_zero_le (show 0<=k by omega)
  rw [hR,hC,Int.toNat_natCast,Int.toNat_natCast] at H
  obtain ⟨hl,hv⟩:=ok.at hR hC
  obtain ⟨d,d0,d1,d2⟩:=mat_cd1 hc hc hl hv ok.2.2.2
  rw [hR]
  refine W.bd (qm_Unit_run (by omega) fun o o1 o2=>W.bd (qm_Of_run ok hR hC fun X x1 x2=>?_))
  refine W.loop_c (fun s:qm_M×Int=>∃ t:Nat,s.2=t/\t<=k/\s.1.C=c/\QM s.1.V c c (powM c (mxv m.V c) t)) (fun s=>k - s.2.toNat) ⟨0,rfl,Nat.zero_le _,o1,o2⟩ ?_
  rintro ⟨p,_⟩ P ⟨t,rfl,ht,h1,h2⟩ hgo hbrk hout
  simp only at h1 h2 hgo |-
  unfold mat_Power.l1
  refine W.run_if (fun c4=>?_) (fun c4=>hbrk _ ?_)
  ·exact W.bd (qm_Mul_run (s:=400000) h2 x1 x2 hc hc hc (by omega) (fun i j hi hj=>powM_sz hc d0 d1 d2 (by omega) hi hj) (fun i j hi hj=>(hv i j hi hj).sz.mono (by omega)) fun q q1 q2=>hgo _ ⟨t+1,by simp,by omega,q1,q2⟩ (by simp;omega))
  ·obtain rfl:t=k:=by omega
   unfold mat_Power.j1
   exact W.bd (qm_Out_run h2 h1 (by omega) (by omega) H)
 ·rw [if_pos no] at H
  rw [if_pos (by decide)];exact H
theorem toldR_ratOf {v:api_Rat} (h:valid v):toldR (ratOf v)=(v,true):=by
 have h1:=h.num
 obtain ⟨a1,a2,a3,a4,_⟩:=h
 unfold toldR
 rw [h1.1,if_pos (by omega),h1.2]
theorem mat_Turn_run (hm:m.V.length<=281474976710656) (H:Q (turnS m)):(mat_Turn.f m).run Q:=by
 unfold turnS at H
 unfold mat_Turn.f
 refine W.bd (mat_Validate_run hm (fun ok=>?_) (fun no=>?_))
 ·rw [if_neg (nn ok)] at H
  rw [if_neg (by decide)]
  obtain ⟨r,c,hR,hC,hr,hc⟩:=ok.nat
  obtain ⟨hl,hv⟩:=ok.at hR hC
  rw [hR,hC,Int.toNat_natCast,Int.toNat_natCast] at H
  have ht:∀ k i,k<c->i<r->toldR (mxv m.V c i k)=(gd m.V (i*c+k),true):=fun k i hk hi=>toldR_ratOf (hv i k hi hk)
  unfold giveS at H
  have hall:allM c r (fun k i=>mxv m.V c i k):=fun k hk i hi=>by rw [ht k i hk hi]
  rw [if_pos hall] at H
  unfold mat_rows.f
  refine W.bd ?_
  refine W.loop_c (fun s:List (List api_Rat)×Int=>∃ i:Nat,s.2=i/\i<=r/\s.1.length=i/\∀ p,p<i->gd s.1 p=(m.V.drop (p*c)).take c) (fun s=>r - s.2.toNat) ⟨0,rfl,Nat.zero_le _,rfl,fun p hp=>by omega⟩ ?_
  rintro ⟨rows,_⟩ P ⟨i,rfl,hi,h1,h2⟩ hgo hbrk hout
  simp only at h1 h2 hgo |-
  unfold mat_rows.l1
  rw [hR,hC]
  refine W.run_if (fun c1=>?_) (fun c1=>hbrk _ ?_)
  ·have hir:i<r:=by omega
   have hp:=mul_in (a:=(i:Int)) (b:=(c:Int)) (by omega) (by omega)
   have hp2:=mul_in (a:=(i:Int)+1) (b:=(c:Int)) (by omega) (by omega)
   obtain ⟨g1,g2,g3⟩:=row_in hl hir
   refine W.req_i (by show _/\_;omega) (W.req_i (by show _/\_;omega) (W.req_i (by show _/\_;omega) (W.req_i ⟨g1,g2,Int.le_refl _,g3⟩ (W.req_i (by omega) (hgo _ ⟨i+1,by simp,by omega,by simp [h1],fun p hp=>?_⟩ (by simp;omega))))))
   rw [cut_eq]
   simp only
   rw [gd_app,h1]
   by_cases e:p<i
   ·rw [if_pos e];exact h2 p e
   ·obtain rfl:p=i:=by omega
    rw [if_neg (by omega),Nat.sub_self]
    rfl
  obtain rfl:i=r:=by omega
  unfold mat_rows.j1
  rw [W.ret_r,hC]
  dsimp only
  refine W.loop_c (fun s:Int×Int×List api_Rat×Int=>∃ k:Nat,s.2.2.2=k/\k<=c/\s.1=c/\s.2.1=i/\s.2.2.1=flatM k i (fun k i=>mxv m.V c i k)) (fun s=>c - s.2.2.2.toNat) ⟨0,rfl,Nat.zero_le _,rfl,hR,rfl⟩ ?_
  rintro ⟨_,_,_,_⟩ P2 ⟨k,rfl,hk,rfl,rfl,rfl⟩ hgo2 hbrk2 hout2
  simp only at hgo2 |-
  unfold mat_Turn.l1
  rw [hC]
  refine W.run_if (fun c2=>?_) (fun c2=>hbrk2 _ ?_)
  ·have hkc:k<c:=by omega
   have hmul:=Nat.mul_le_mul hk hr
   refine W.loop_c (fun s:Int×Int×List api_Rat×Int=>∃ p:Nat,s.2.2.2=p/\p<=i/\s.1=c/\s.2.1=i/\s.2.2.1=flatM k i (fun k i=>mxv m.V c i k) ++ tolds p (fun i=>mxv m.V c i k)) (fun s=>i - s.2.2.2.toNat) ⟨0,rfl,Nat.zero_le _,rfl,rfl,by simp [tolds]⟩ ?_
   rintro ⟨_,_,_,_⟩ P3 ⟨p,rfl,hp,rfl,rfl,rfl⟩ hgo3 hbrk3 hout3
   simp only at hgo3 |-
   unfold mat_Turn.l2
   rw [hR]
   refine W.run_if (fun c3=>?_) (fun c3=>hbrk3 _ ?_)
   ·have hpi:p<i:=by omega
    have hrow:=h2 p hpi
    have hcl:=cut_len hl hpi
    unfold mat_columns_at.f
    simp only [gi_gd,hrow]
    refine W.bd (W.req_i (by omega) (W.req_i (by omega) ?_))
    rw [W.ret_r,gd_cut _ _ _ _ hkc]
    refine W.req_i (by rw [List.length_append,flatM_len,tolds_len];omega) (hgo3 _ ⟨p+1,by simp,by omega,rfl,rfl,?_⟩ (by simp;omega))
    simp only
    rw [tolds_succ,ht k p hkc hpi,List.append_assoc]
   ·obtain rfl:p=i:=by omega
    unfold mat_Turn.j2
    exact hgo2 _ ⟨k+1,by simp,by omega,rfl,rfl,(flatM_succ k p _).symm⟩ (by simp;omega)
  ·obtain rfl:k=c:=by omega
   unfold mat_Turn.j1
   exact H
 ·rw [if_pos no] at H
  rw [if_pos (by decide)];exact H
end
end Go.Proofs.YtlmpoindlejefaaGreat.E
