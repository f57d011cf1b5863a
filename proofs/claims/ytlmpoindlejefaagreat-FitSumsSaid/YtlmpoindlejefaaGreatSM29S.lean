/- The sums of a fit, a row more, and what they tell: the law. -/
import Derived.Test.YtlmpoindlejefaaGreatSM28
set_option linter.unusedVariables false
set_option linter.unusedSimpArgs false
namespace Go.Proofs.YtlmpoindlejefaaGreat.E
open Go Go.RowKit
open Classical in
noncomputable def fromSpec (m:api_Mat) (b:List api_Rat):api_Fit×Int:=
 if ¬ (matOk m/\∀ r ∈ b,valid r) then (fitZero,1) else if (b.length:Int)≠m.R then (fitZero,8) else outFit m.C.toNat (gA m.V m.C.toNat m.R.toNat) (gV m.V b m.C.toNat m.R.toNat) (gq b m.R.toNat) m.R
section
variable {m:api_Mat} {b:List api_Rat} {Q:api_Fit×Int->Prop}
theorem fit_From_run (hl:m.V.length<=281474976710656) (hb:b.length<=281474976710656) (H:Q (fromSpec m b)):(fit_From.f m b).run Q:=by
 unfold fromSpec at H
 unfold fit_From.f
 refine W.bd (fit_known_run hl hb (fun ok vb=>?_) (fun c=>?_))
 ·rw [if_neg (fun h=>h ⟨ok,vb⟩)] at H
  rw [if_neg (by decide)]
  refine W.run_if (fun c=>by rwa [if_pos c] at H) (fun c=>?_)
  rw [if_neg c] at H
  have o1:=ok.1
  have o2:=ok.2.1
  have hR:m.R=(m.R.toNat:Nat):=by omega
  have hC:m.C=(m.C.toNat:Nat):=by omega
  refine W.bd (fit_made_run ok hR hC (by omega) (fun k hk=>(all_valid_iff b).1 vb k (by omega)) fun P hP=>W.bd (fit_out_spec hP (by omega) H))
 ·rw [if_pos c] at H
  rw [if_pos (by decide)]
  exact H
theorem ref27_From_run (hl:m.V.length<=281474976710656) (hb:b.length<=281474976710656) (H:Q (fromSpec m b)):(ref27_From.f m b).run Q:=by
 unfold fromSpec at H
 unfold ref27_From.f
 refine W.bd (ref27_args_run hl hb (fun ok vb=>?_) (fun c=>?_))
 ·rw [if_neg (fun h=>h ⟨ok,vb⟩)] at H
  rw [if_neg (by decide)]
  refine W.run_if (fun c=>by rwa [if_pos c] at H) (fun c=>?_)
  rw [if_neg c] at H
  have o1:=ok.1
  have o2:=ok.2.1
  have hR:m.R=(m.R.toNat:Nat):=by omega
  have hC:m.C=(m.C.toNat:Nat):=by omega
  have vb':=(all_valid_iff b).1 vb
  refine W.bd (ref01_List_run (n:=m.R.toNat) (f:=fun k=>ratOf (gd b k)) (by omega) (by omega) (fun k hk=>⟨vb' k (by omega),rfl⟩) fun B hB=>W.bd (ref27_sums_run ok hR hC hB (fun j hj=>(vb' j (by omega)).sz) fun N V q k1 k2 k3=>?_))
  refine W.bd (ref27_give_run k1 k2 k3 (by omega) (fun e=>absurd e (by omega)) fun _=>H)
 ·rw [if_pos c] at H
  rw [if_pos (by decide)]
  exact H
end
def fitOk (f:api_Fit):Prop:=matOk f.M/\f.M.R=f.N/\f.M.C=f.N/\(f.V.length:Int)=f.N/\(∀ r ∈ f.V,valid r)/\valid f.Q/\0<=f.Rows/\f.Rows<=1000000000
open Classical in
noncomputable def chkF (f:api_Fit):Int:=
 if ¬ matOk f.M then 1 else if f.M.R≠f.N then 8 else if f.M.C≠f.N then 8 else if (f.V.length:Int)≠f.N then 8 else if ¬ (∀ r ∈ f.V,valid r) then 1 else if ¬ valid f.Q then 1 else if f.Rows<0 then 1 else if f.Rows>1000000000 then 1 else 0
section
variable {f:api_Fit} {Q:Int->Prop}
theorem chkF_ok (h:chkF f=0):fitOk f:=by
 unfold chkF at h
 by_cases c1:matOk f.M
 ·rw [if_neg (fun h=>h c1)] at h
  by_cases c2:f.M.R=f.N
  ·rw [if_neg (fun h=>h c2)] at h
   by_cases c3:f.M.C=f.N
   ·rw [if_neg (fun h=>h c3)] at h
    by_cases c4:(f.V.length:Int)=f.N
    ·rw [if_neg (fun h=>h c4)] at h
     by_cases c5:∀ r ∈ f.V,valid r
     ·rw [if_neg (fun h=>h c5)] at h
      by_cases c6:valid f.Q
      ·rw [if_neg (fun h=>h c6)] at h
       by_cases c7:f.Rows<0
       ·rw [if_pos c7] at h;omega
       ·rw [if_neg c7] at h
        by_cases c8:f.Rows>1000000000
        ·rw [if_pos c8] at h;omega
        ·exact ⟨c1,c2,c3,c4,c5,c6,by omega,by omega⟩
      ·rw [if_pos c6] at h;omega
     ·rw [if_pos c5] at h;omega
    ·rw [if_pos c4] at h;omega
   ·rw [if_pos c3] at h;omega
  ·rw [if_pos c2] at h;omega
 ·rw [if_pos c1] at h;omega
theorem fit_check_spec (hl:f.M.V.length<=281474976710656) (hv:f.V.length<=281474976710656) (H:Q (chkF f)):(fit_check.f f).run Q:=by
 unfold chkF at H
 unfold fit_check.f
 refine W.bd (mat_Validate_run hl (fun c=>?_) (fun c=>?_))
 ·rw [if_neg (fun h=>h c)] at H
  rw [if_neg (by decide)]
  refine W.run_if (fun c=>by rwa [if_pos c] at H) (fun c=>?_)
  rw [if_neg c] at H
  refine W.run_if (fun c=>by rwa [if_pos c] at H) (fun c=>?_)
  rw [if_neg c] at H
  refine W.run_if (fun c=>by rwa [if_pos c] at H) (fun c=>?_)
  rw [if_neg c] at H
  refine W.bd (num_AllValid_run hv (W.run_if (fun c=>?_) (fun c=>?_)))
  ·have c:=of_decide_eq_true c
   rw [if_neg (fun h=>h c)] at H
   refine W.bd (num_Valid_run (W.run_if (fun c=>?_) (fun c=>?_)))
   ·have c:=of_decide_eq_true c
    rw [if_neg (fun h=>h c)] at H
    refine W.run_if (fun c=>by rwa [if_pos c] at H) (fun c=>?_)
    rw [if_neg c] at H
    refine W.run_if (fun c=>by rwa [if_pos c] at H) (fun c=>?_)
    rwa [if_neg c] at H
   ·rwa [if_pos (fun h=>c (decide_eq_true h))] at H
  ·rwa [if_pos (fun h=>c (decide_eq_true h))] at H
 ·rw [if_pos c] at H
  rw [if_pos (by decide)]
  exact H
theorem ref27_isFit_spec (hl:f.M.V.length<=281474976710656) (hv:f.V.length<=281474976710656) (H:Q (chkF f)):(ref27_isFit.f f).run Q:=by
 unfold chkF at H
 unfold ref27_isFit.f
 refine W.bd (ref04_Validate_run hl (fun c=>?_) (fun c=>?_))
 ·rw [if_neg (fun h=>h c)] at H
  rw [if_neg (by decide)]
  refine W.run_if (fun c=>by rwa [if_pos c] at H) (fun c=>?_)
  rw [if_neg c] at H
  refine W.run_if (fun c=>by rwa [if_pos c] at H) (fun c=>?_)
  rw [if_neg c] at H
  refine W.run_if (fun c=>by rwa [if_pos c] at H) (fun c=>?_)
  rw [if_neg c] at H
  refine W.bd (ref01_Are_run hv (W.run_if (fun c=>?_) (fun c=>?_)))
  ·have c:=of_decide_eq_true c
   rw [if_neg (fun h=>h c)] at H
   refine W.bd (ref01_Is_run (W.run_if (fun c=>?_) (fun c=>?_)))
   ·have c:=of_decide_eq_true c
    rw [if_neg (fun h=>h c)] at H
    refine W.run_if (fun c=>by rwa [if_pos c] at H) (fun c=>?_)
    rw [if_neg c] at H
    refine W.run_if (fun c=>by rwa [if_pos c] at H) (fun c=>?_)
    rwa [if_neg c] at H
   ·rwa [if_pos (fun h=>c (decide_eq_true h))] at H
  ·rwa [if_pos (fun h=>c (decide_eq_true h))] at H
 ·rw [if_pos c] at H
  rw [if_pos (by decide)]
  exact H
end
theorem fitOk.rep {f:api_Fit} (h:fitOk f):FitRep f f.N.toNat (mxv f.M.V f.N.toNat) (fun i=>ratOf (gd f.V i)) (ratOf f.Q) f.Rows/\f.N.toNat<=12:=by
 obtain ⟨h1,h2,h3,h4,h5,h6,h7⟩:=h
 have o1:=h1.1
 obtain ⟨a1,a2⟩:=h1.at (r:=f.N.toNat) (c:=f.N.toNat) (by omega) (by omega)
 exact ⟨⟨by omega,by omega,by omega,a1,fun i k hi hk=>⟨a2 i k hi hk,rfl⟩,by omega,fun i hi=>⟨(all_valid_iff _).1 h5 i (by omega),rfl⟩,⟨h6,rfl⟩,rfl⟩,by omega⟩
open Classical in
noncomputable def addSpec (f:api_Fit) (row:List api_Rat) (v:api_Rat):api_Fit×Int:=
 if chkF f≠0 then (fitZero,chkF f) else if ¬ (∀ r ∈ row,valid r) then (fitZero,1) else if ¬ valid v then (fitZero,1) else if (row.length:Int)≠f.N then (fitZero,8) else if f.Rows=1000000000 then (fitZero,3) else
  outFit f.N.toNat (fun i k=>mxv f.M.V f.N.toNat i k+ratOf (gd row i)*ratOf (gd row k)) (fun i=>ratOf (gd f.V i)+ratOf (gd row i)*ratOf v) (ratOf f.Q+ratOf v*ratOf v) (f.Rows+1)
section
variable {f:api_Fit} {row:List api_Rat} {v:api_Rat} {Q:api_Fit×Int->Prop}
theorem fit_Add_spec (hl:f.M.V.length<=281474976710656) (hv:f.V.length<=281474976710656) (hr:row.length<=281474976710656) (H:Q (addSpec f row v)):(fit_Add.f f row v).run Q:=by
 unfold addSpec at H
 unfold fit_Add.f
 refine W.bd (fit_check_spec hl hv (W.run_if (fun c=>by rwa [if_pos c] at H) (fun c=>?_)))
 rw [if_neg c] at H
 have ok:=chkF_ok (Decidable.not_not.1 c)
 obtain ⟨rep,hn⟩:=ok.rep
 have hrows:=ok.2.2.2.2.2.2
 refine W.bd (num_AllValid_run hr (W.run_if (fun c=>?_) (fun c=>?_)))
 ·have c:=of_decide_eq_true c
  rw [if_neg (fun h=>h c)] at H
  refine W.bd (num_Valid_run (W.run_if (fun c2=>?_) (fun c2=>?_)))
  ·have c2:=of_decide_eq_true c2
   rw [if_neg (fun h=>h c2)] at H
   refine W.run_if (fun c=>by rwa [if_pos c] at H) (fun c3=>?_)
   rw [if_neg c3] at H
   refine W.run_if (fun c=>by rwa [if_pos c] at H) (fun c4=>?_)
   rw [if_neg c4] at H
   have z:=rep.small
   have vr:∀ k,k<f.N.toNat->valid (gd row k)/\ratOf (gd row k)=ratOf (gd row k):=fun k hk=>⟨(all_valid_iff row).1 c k (by omega),rfl⟩
   refine W.bd (fit_of_run rep hn fun S hS=>W.bd (num_In_run (n:=f.N.toNat) (by omega) (by omega) vr fun ro hro=>W.bd (num_Of_run c2 fun d hd=>?_)))
   exact W.bd (fit_sums_add_run (S:=⟨S.n,S.m,S.v,S.q⟩) (n:=f.N.toNat) (s:=40) (t:=40) hS.hn (by omega) hS.hm hS.hv hS.hq hro hd (by omega) (by omega) z.a z.v z.q (fun i hi=>(vr i hi).1.sz) c2.sz fun S' k1 k2 k3 k4=>W.req_i (by show _/\_;omega) (W.bd (fit_out_spec (S:=⟨S'.n,S'.m,S'.v,S'.q⟩) ⟨k1,k2,k3,k4⟩ hn H)))
  ·rwa [if_pos (fun h=>c2 (decide_eq_true h))] at H
 ·rwa [if_pos (fun h=>c (decide_eq_true h))] at H
theorem ref27_Add_spec (hl:f.M.V.length<=281474976710656) (hv:f.V.length<=281474976710656) (hr:row.length<=281474976710656) (H:Q (addSpec f row v)):(ref27_Add.f f row v).run Q:=by
 unfold addSpec at H
 unfold ref27_Add.f
 refine W.bd (ref27_isFit_spec hl hv (W.run_if (fun c=>by rwa [if_pos c] at H) (fun c=>?_)))
 rw [if_neg c] at H
 have ok:=chkF_ok (Decidable.not_not.1 c)
 obtain ⟨rep,hn⟩:=ok.rep
 have hrows:=ok.2.2.2.2.2.2
 generalize hN:f.N.toNat=n at *
 refine W.bd (ref01_Are_run hr (W.run_if (fun c=>?_) (fun c=>?_)))
 ·have c:=of_decide_eq_true c
  rw [if_neg (fun h=>h c)] at H
  refine W.bd (ref01_Is_run (W.run_if (fun c2=>?_) (fun c2=>?_)))
  ·have c2:=of_decide_eq_true c2
   rw [if_neg (fun h=>h c2)] at H
   refine W.run_if (fun c=>by rwa [if_pos c] at H) (fun c3=>?_)
   rw [if_neg c3] at H
   have hN2:f.N=n:=rep.hn
   have z:=rep.small
   have vr:∀ k,k<n->valid (gd row k):=fun k hk=>(all_valid_iff row).1 c k (by omega)
   obtain ⟨q1,q2,q3⟩:=ok.2.2.2.2.2.1.i64
   obtain ⟨u1,u2,u3⟩:=c2.i64
   refine W.bd (ref04_Rows_run (r:=n) (c:=n) rep.mr rep.mc hn hn rep.ml (fun i k hi hk=>(rep.hm i k hi hk).1) fun N0 hN0=>W.bd (ref01_List_run (f:=fun i=>ratOf (gd f.V i)) rep.vl (by omega) rep.hv fun V0 hV0=>W.bd (ref01_Of_run q1 q2 q3 fun q hq=>W.bd (ref01_List_run (n:=n) (f:=fun i=>ratOf (gd row i)) (by omega) (by omega) (fun k hk=>⟨vr k hk,rfl⟩) fun R hRow=>W.bd (ref01_Of_run u1 u2 u3 fun y hy=>?_)))))
   have hy:RRep y (ratOf v):=hy
   have hq:RRep q (ratOf f.Q):=hq
   have hRl:=hRow.1
   have hNl:=hN0.1
   have sR:∀ i,i<n->Sz 40 (ratOf (gd row i)):=fun i hi=>(vr i hi).sz
   have sy:Sz 40 (ratOf v):=c2.sz
   generalize hA:mxv f.M.V n=A at *
   generalize hB:(fun i=>ratOf (gd f.V i))=B at *
   have hB':∀ i,ratOf (gd f.V i)=B i:=fun i=>congrFun hB i
   simp only [hB'] at H
   refine W.loop_c (fun s:List (List ref01_Q)×List ref01_Q×Int=>∃ i:Nat,s.2.2=i/\i<=n/\RM s.1 n n (fun a k=>if a<i then A a k+ratOf (gd row a)*ratOf (gd row k) else A a k)/\RL s.2.1 n (fun a=>if a<i then B a+ratOf (gd row a)*ratOf v else B a)) (fun s=>n - s.2.2.toNat) ⟨0,rfl,Nat.zero_le _,hN0.congr fun a k _ _=>by rw [if_neg (by omega)],hV0.congr fun a _=>by rw [if_neg (by omega)]⟩ ?_
   rintro ⟨N1,V1,_⟩ P ⟨i,rfl,hi,h1,h2⟩ hgo hbrk hout
   simp only at h1 h2 hgo |-
   have hN1:=h1.1
   have hV1:=h2.1
   unfold ref27_Add.l1
   refine W.run_if (fun c5=>W.req_i (by omega) ?_) (fun c5=>hbrk _ ?_)
   ·have hin:i<n:=by omega
    have hlen:=(h1.2 i hin).1
    refine W.loop_c (fun s:List (List ref01_Q)×Int=>∃ k:Nat,s.2=k/\k<=n/\RM s.1 n n (fun a k'=>if a<i\/a=i/\k'<k then A a k'+ratOf (gd row a)*ratOf (gd row k') else A a k')) (fun s=>n - s.2.toNat) ⟨0,rfl,Nat.zero_le _,h1.congr fun a k _ _=>by by_cases e:a<i <;> simp [e]⟩ ?_
    rintro ⟨N2,_⟩ P2 ⟨k,rfl,hk,k1⟩ hgo2 hbrk2 hout2
    simp only at k1 hgo2 |-
    have hN2l:=k1.1
    have hrow:=k1.2 i hin
    have hrl:=hrow.1
    unfold ref27_Add.l2
    simp only [gi_gd,hlen,Int.toNat_natCast]
    refine W.run_if (fun c6=>?_) (fun c6=>hbrk2 _ ?_)
    ·have hkn:k<n:=by omega
     have hcell:=hrow.2 k hkn
     dsimp only at hcell
     rw [if_neg (by omega)] at hcell
     refine W.req_i (by omega) (W.req_i (by omega) (W.req_i (by omega) (W.req_i (by omega) (W.req_i (by omega) (W.bd (ref01_Mul_run (hRow.2 i hin) (hRow.2 k hkn) ((sR i hin).ok (by omega)) ((sR k hkn).ok (by omega)) fun x hx=>W.bd (ref01_Add_run hcell hx ((z.a i k hin hkn).ok (by omega)) (((sR i hin).mul (sR k hkn)).ok (by omega)) fun w hw=>W.req_i (by omega) (hgo2 _ ⟨k+1,by simp,by omega,?_⟩ (by simp;omega)))))))))
     refine (k1.set (hrow.set hw)).congr fun a k' _ _=>?_
     dsimp only
     by_cases e1:a=i
     ·subst e1
      by_cases e2:k'=k
      ·subst e2;simp
      ·have:(k'<k+1) ↔ (k'<k):=by omega
       rw [if_pos rfl,if_neg e2]
       simp only [this]
     ·rw [if_neg e1]
      simp only [e1,false_and,or_false]
    ·obtain rfl:k=n:=by omega
     unfold ref27_Add.j3 ref27_Add.j2
     simp only [gi_gd,Int.toNat_natCast]
     have hcell:=h2.2 i hin
     dsimp only at hcell
     rw [if_neg (Nat.lt_irrefl _)] at hcell
     refine W.req_i (by omega) (W.req_i (by omega) (W.bd (ref01_Mul_run (hRow.2 i hin) hy ((sR i hin).ok (by omega)) (sy.ok (by omega)) fun x hx=>W.bd (ref01_Add_run hcell hx ((z.v i hin).ok (by omega)) (((sR i hin).mul sy).ok (by omega)) fun w hw=>W.req_i (by omega) (hgo _ ⟨i+1,by simp,by omega,k1.congr fun a k' _ hk'=>?_,(h2.set hw).congr fun a _=>?_⟩ (by simp;omega))))))
     ·by_cases e:a=i
      ·subst e;simp [hk']
      ·have:(a<i+1) ↔ (a<i):=by omega
       simp [e,this]
     ·by_cases e:a=i
      ·subst e;simp
      ·have:(a<i+1) ↔ (a<i):=by omega
       simp [e,this]
   ·obtain rfl:i=n:=by omega
    unfold ref27_Add.j1
    have zq:=z.q
    refine W.req_i (by show _/\_;omega) (W.bd (ref01_Mul_run hy hy (sy.ok (by omega)) (sy.ok (by omega)) fun x hx=>W.bd (ref01_Add_run hq hx (zq.ok (by omega)) ((sy.mul sy).ok (by omega)) fun w hw=>?_)))
    refine W.bd (ref27_give_run (h1.congr fun a k ha _=>by rw [if_pos ha]) (h2.congr fun a ha=>by rw [if_pos ha]) hw hn (fun e=>?_) (fun e=>?_))
    ·rwa [if_pos (by omega)] at H
    ·rwa [if_neg (by omega)] at H
  ·rwa [if_pos (fun h=>c2 (decide_eq_true h))] at H
 ·rwa [if_pos (fun h=>c (decide_eq_true h))] at H
end
open Classical in
noncomputable def toldSpec (n:Nat) (x:Nat->Rat) (e:Rat):List api_Rat×api_Rat×Int:=if allTold n x/\(toldR e).2=true then (tolds n x,(toldR e).1,0) else ([],⟨0,0⟩,3)
theorem toldSpec_congr {n:Nat} {x x':Nat->Rat} {e e':Rat} (h:∀ i,i<n->x i=x' i) (he:e=e'):toldSpec n x e=toldSpec n x' e':=by
 subst he
 have:allTold n x ↔ allTold n x':=⟨fun k i hi=>by rw [<- h i hi];exact k i hi,fun k i hi=>by rw [h i hi];exact k i hi⟩
 unfold toldSpec
 by_cases c:allTold n x/\(toldR e).2=true
 ·rw [if_pos c,if_pos ⟨this.1 c.1,c.2⟩,tolds_congr h]
 ·rw [if_neg c,if_neg (fun k=>c ⟨this.2 k.1,k.2⟩)]
theorem Sol.uniq {n:Nat} {A:Nat->Nat->Rat} {V x x':Nat->Rat} (h:Sol n A V x) (h':Sol n A V x'):∀ i,i<n->x i=x' i:=(h' x).1 ((h x).2 fun i _=>rfl)
theorem errQ_sol {n:Nat} {A:Nat->Nat->Rat} {V x:Nat->Rat} {q:Rat} (h:Sol n A V x):errQ n A V q x=q - sm n (fun i=>V i*x i):=by
 have s:=(h x).2 fun i _=>rfl
 unfold errQ
 rw [sm_congr (f:=fun i=>x i*sm n (fun k=>A i k*x k)) (g:=fun i=>V i*x i) fun i hi=>by have:=s i hi;unfold dz at this;rw [this,Rat.mul_comm]]
 grind
theorem not_sol {n:Nat} {A:Nat->Nat->Rat} {V:Nat->Rat} {u:Nat->Rat} (h:∃ g,g<n/\u g≠0) (hz:∀ i,i<n->dz n (A i) u=0):∀ x,¬ Sol n A V x:=by
 intro x hx
 obtain ⟨g,hg,hu⟩:=h
 have s1:=(hx x).2 fun i _=>rfl
 have s2:=(hx (fun i=>x i+u i)).1 fun i hi=>by
  have a:=s1 i hi
  have b:=hz i hi
  unfold dz at a b |-
  rw [sm_congr (g:=fun j=>A i j*x j+A i j*u j) fun j _=>by grind,sm_add,a,b,Rat.add_zero]
 have:=s2 g hg
 exact absurd (show u g=0 by grind) hu
open Classical in
noncomputable def ansSpec (f:api_Fit):List api_Rat×api_Rat×Int:=
 if chkF f≠0 then ([],⟨0,0⟩,chkF f) else
  if h:∃ x,Sol f.N.toNat (mxv f.M.V f.N.toNat) (fun i=>ratOf (gd f.V i)) x then toldSpec f.N.toNat h.choose (ratOf f.Q - sm f.N.toNat (fun i=>ratOf (gd f.V i)*h.choose i)) else ([],⟨0,0⟩,4)
section
variable {f:api_Fit} {Q:List api_Rat×api_Rat×Int->Prop}
theorem ansSpec_sol {x:Nat->Rat} (h0: ¬ chkF f≠0) (h:Sol f.N.toNat (mxv f.M.V f.N.toNat) (fun i=>ratOf (gd f.V i)) x):ansSpec f=toldSpec f.N.toNat x (ratOf f.Q - sm f.N.toNat (fun i=>ratOf (gd f.V i)*x i)):=by
 have hex:∃ x,Sol f.N.toNat (mxv f.M.V f.N.toNat) (fun i=>ratOf (gd f.V i)) x:=⟨x,h⟩
 unfold ansSpec
 rw [if_neg h0,dif_pos hex]
 have u:=hex.choose_spec.uniq h
 exact toldSpec_congr u (by rw [sm_congr (g:=fun i=>ratOf (gd f.V i)*x i) fun i hi=>by rw [u i hi]])
theorem ansSpec_none (h0: ¬ chkF f≠0) (h:∀ x,¬ Sol f.N.toNat (mxv f.M.V f.N.toNat) (fun i=>ratOf (gd f.V i)) x):ansSpec f=([],⟨0,0⟩,4):=by
 unfold ansSpec
 rw [if_neg h0,dif_neg (fun ⟨x,hx⟩=>h x hx)]
theorem fit_Answer_spec (hl:f.M.V.length<=281474976710656) (hv:f.V.length<=281474976710656) (H:Q (ansSpec f)):(fit_Answer.f f).run Q:=by
 unfold fit_Answer.f
 refine W.bd (fit_check_spec hl hv (W.run_if (fun c=>by unfold ansSpec at H;rwa [if_pos c] at H) (fun c=>?_)))
 have ok:=chkF_ok (Decidable.not_not.1 c)
 obtain ⟨rep,hn⟩:=ok.rep
 have z:=rep.small
 refine W.bd (fit_of_run rep hn fun S hS=>W.bd (fit_solve_run hS.hm hS.hv (by omega) (by have:=szR_12 (show 40<=973 by decide) hn;omega) z.a z.v (fun out x k1 k2 k3=>?_) (fun u k1 k2=>?_)))
 ·rw [if_pos rfl]
  have k3':∀ i,i<f.N.toNat->Sz 16400000000 (x i):=fun i hi=>(k3 i hi).mono (szR_12 (show 40<=973 by decide) hn)
  have ks:Sol f.N.toNat (mxv f.M.V f.N.toNat) (fun i=>ratOf (gd f.V i)) x:=k2
  rw [ansSpec_sol c ks,<- errQ_sol ks] at H
  unfold toldSpec at H
  refine W.bd (fit_err_run hS hn k1 (z.mono (by decide)) k3' fun o ho=>W.bd (fit_told_run k1 (by omega) ho (fun a b=>?_) (fun c=>?_)))
  ·rwa [if_pos ⟨a,b⟩] at H
  ·rwa [if_neg c] at H
 ·rw [if_neg (by simp)]
  rwa [ansSpec_none c (not_sol k1 k2)] at H
theorem ref27_Answer_spec (hl:f.M.V.length<=281474976710656) (hv:f.V.length<=281474976710656) (H:Q (ansSpec f)):(ref27_Answer.f f).run Q:=by
 unfold ref27_Answer.f
 refine W.bd (ref27_isFit_spec hl hv (W.run_if (fun c=>by unfold ansSpec at H;rwa [if_pos c] at H) (fun c=>?_)))
 have ok:=chkF_ok (Decidable.not_not.1 c)
 obtain ⟨rep,hn⟩:=ok.rep
 have z:=rep.small
 obtain ⟨q1,q2,q3⟩:=ok.2.2.2.2.2.1.i64
 have hs12:=szR_12 (show 40<=973 by decide) hn
 refine W.bd (ref01_List_run (f:=fun i=>ratOf (gd f.V i)) rep.vl (by omega) rep.hv fun V0 hV0=>W.bd (ref04_Rows_run (r:=f.N.toNat) (c:=f.N.toNat) rep.mr rep.mc hn hn rep.ml (fun i k hi hk=>(rep.hm i k hi hk).1) fun N0 hN0=>W.bd (ref27_alone_run hN0 hV0 (by omega) (by omega) z.a z.v (fun out x k1 ks k3=>?_) (fun out no=>?_))))
 ·rw [if_pos rfl]
  have k3':∀ i,i<f.N.toNat->Sz 16400000000 (x i):=fun i hi=>(k3 i hi).mono hs12
  rw [ansSpec_sol c ks] at H
  unfold toldSpec at H
  have zd:Sz 196800000505 (sm f.N.toNat (fun i=>ratOf (gd f.V i)*x i)):=(Sz.sm fun j hj=>(z.v j hj).mul (k3' j hj)).mono (by omega)
  refine W.bd (ref01_Of_run q1 q2 q3 fun q hq=>?_)
  have hq:RRep q (ratOf f.Q):=hq
  refine W.bd (ref27_dot_run hV0 k1 (by omega) (by omega) (by omega) z.v k3' fun d hd=>W.bd (ref01_Sub_run hq hd (z.q.ok (by omega)) (zd.ok (by omega)) fun e he=>W.bd (ref27_told_run k1 (by omega) he (fun a b=>?_) (fun c=>?_))))
  ·rwa [if_pos ⟨a,b⟩] at H
  ·rwa [if_neg c] at H
 ·rw [if_neg (by simp)]
  rwa [ansSpec_none c no] at H
end
theorem law27_sameFit_refl {f:api_Fit} {Q:Bool->Prop} (H:Q true):(law27_sameFit.f f f).run Q:=by
 unfold law27_sameFit.f
 rw [if_pos rfl,if_pos rfl,if_pos (by simp)]
 refine W.bd (law27_same_refl ?_)
 rw [if_pos rfl,if_pos rfl,if_pos rfl]
 exact W.bd (law27_same_refl H)
theorem law27_FitSums_run {m:api_Mat} {b:List api_Rat} {s:api_Fit} {row:List api_Rat} {v:api_Rat} (hl:m.V.length<=281474976710656) (hb:b.length<=281474976710656) (hm:s.M.V.length<=281474976710656) (hv:s.V.length<=281474976710656) (hr:row.length<=281474976710656):(law27_FitSums.f m b s row v).run (fun b=>b=true):=by
 unfold law27_FitSums.f
 refine W.bd (fit_From_run hl hb (W.bd (ref27_From_run hl hb (W.bd (law27_sameFit_refl ?_)))))
 rw [if_pos rfl,if_neg (by simp)]
 refine W.bd (fit_Add_spec hm hv hr (W.bd (ref27_Add_spec hm hv hr (W.bd (law27_sameFit_refl ?_)))))
 rw [if_pos rfl,if_neg (by simp)]
 refine W.bd (fit_Answer_spec hm hv (W.bd (ref27_Answer_spec hm hv (W.bd (law27_same_refl ?_)))))
 rw [if_pos rfl,if_pos (by simp),if_pos rfl]
 exact W.bd (law27_known_run rfl)
end Go.Proofs.YtlmpoindlejefaaGreat.E
