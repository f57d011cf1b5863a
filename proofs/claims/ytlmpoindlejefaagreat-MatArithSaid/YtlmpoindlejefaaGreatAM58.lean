/- Arithmetic of matrices: the reference; the law. -/
import Derived.Test.YtlmpoindlejefaaGreatAM57
import Derived.Test.YtlmpoindlejefaaGreatAM49
set_option linter.unusedVariables false
set_option linter.unusedSimpArgs false
namespace Go.Proofs.YtlmpoindlejefaaGreat.E
open Go Go.RowKit
section
variable {r c n:Nat} {A B:Nat->Nat->Rat} {P:List (List ref01_Q)->Prop}
theorem ref04_Times_run {a b:List (List ref01_Q)} {s:Nat} (ha:RM a r n A) (hb:RM b n c B) (hr:r<=12) (hn:n<=12) (hc:c<=12) (hs:s<=1000000) (sA:∀ i k,i<r->k<n->Sz s (A i k)) (sB:∀ k j,k<n->j<c->Sz s (B k j)) (H:∀ o,RM o r c (mulM n A B)->P o):(ref04_Times.f a b (c:Int)).run P:=by
 have hal:=ha.1
 have hbl:=hb.1
 have sp:∀ i j k,i<r->j<c->k<=n->Sz 30000000 (sm k fun k=>A i k*B k j):=fun i j k hi hj hk=>(Sz.sm fun q hq=>(sA i q hi (by omega)).mul (sB q j (by omega) hj)).mono (by have:=Nat.mul_le_mul (show k<=12 by omega) (show s+s+1<=2000001 by omega);omega)
 unfold ref04_Times.f
 rw [hal]
 refine W.req_i (by omega) ?_
 refine W.loop_c (fun s:List (List ref01_Q)×Int=>∃ i:Nat,s.2=i/\i<=r/\s.1.length=r/\∀ p,p<i->RL (gd s.1 p) c (mulM n A B p)) (fun s=>r - s.2.toNat) ⟨0,rfl,Nat.zero_le _,by simp,fun p hp=>by omega⟩ ?_
 rintro ⟨o,_⟩ P1 ⟨i,rfl,hi,h1,h2⟩ hgo hbrk hout
 simp only at h1 h2 hgo |-
 unfold ref04_Times.l1
 rw [hal]
 refine W.run_if (fun c1=>?_) (fun c1=>hbrk _ ?_)
 ·have hir:i<r:=by omega
  have har:=ha.2 i hir
  have harl:=har.1
  refine W.req_i (by omega) (W.req_i (by omega) ?_)
  refine W.loop_c (fun s:List (List ref01_Q)×Int=>∃ j:Nat,s.2=j/\j<=c/\s.1.length=r/\(∀ p,p<i->RL (gd s.1 p) c (mulM n A B p))/\RL (gd s.1 i) c (fun k=>if k<j then mulM n A B i k else 0)) (fun s=>c - s.2.toNat) ⟨0,rfl,Nat.zero_le _,by simp [h1],fun p hp=>?_,?_⟩ ?_
  ·simp only [Int.toNat_natCast]
   rw [gd_set,if_neg (by omega)]
   exact h2 p hp
  ·simp only [Int.toNat_natCast]
   rw [gd_set,if_pos ⟨rfl,by omega⟩]
   exact (RL.zero c).congr fun k hk=>by rw [if_neg (by omega)]
  rintro ⟨o2,_⟩ P2 ⟨j,rfl,hj,k1,k2,k3⟩ hgo2 hbrk2 hout2
  simp only at k1 k2 k3 hgo2 |-
  unfold ref04_Times.l2
  refine W.run_if (fun c2=>?_) (fun c2=>hbrk2 _ ?_)
  ·have hjc:j<c:=by omega
   refine W.loop_c (fun s:List (List ref01_Q)×Int=>∃ q:Nat,s.2=q/\q<=n/\s.1.length=r/\(∀ p,p<i->RL (gd s.1 p) c (mulM n A B p))/\RL (gd s.1 i) c (fun k=>if k=j then sm q (fun k=>A i k*B k j) else if k<j then mulM n A B i k else 0)) (fun s=>n - s.2.toNat) ⟨0,rfl,Nat.zero_le _,k1,k2,k3.congr fun k hk=>?_⟩ ?_
   ·by_cases e:k=j
    ·rw [if_pos e,if_neg (by omega)];rfl
    ·rw [if_neg e]
   rintro ⟨o3,_⟩ P3 ⟨q,rfl,hq,m1,m2,m3⟩ hgo3 hbrk3 hout3
   simp only at m1 m2 m3 hgo3 |-
   have m3l:=m3.1
   unfold ref04_Times.l3
   simp only [gi_gd,hbl]
   refine W.run_if (fun c3=>?_) (fun c3=>hbrk3 _ ?_)
   ·have hqn:q<n:=by omega
    have hbq:=hb.2 q hqn
    have hbql:=hbq.1
    have hcell:=m3.2 j hjc
    dsimp only at hcell
    rw [if_pos rfl] at hcell
    refine W.req_i (by omega) (W.req_i (by omega) (W.req_i (by omega) (W.req_i (by omega) (W.req_i (by omega) (W.req_i (by omega) (W.req_i (by omega) (W.bd (ref01_Mul_run (har.2 q hqn) (hbq.2 j hjc) ((sA i q hir hqn).ok (by omega)) ((sB q j hqn hjc).ok (by omega)) fun u hu=>W.bd (ref01_Add_run hcell hu ((sp i j q hir hjc hq).ok (by omega)) (((sA i q hir hqn).mul (sB q j hqn hjc)).ok (by omega)) fun z hz=>W.req_i (by omega) (hgo3 _ ⟨q+1,by simp,by omega,by simp [m1],fun p hp=>?_,?_⟩ (by simp;omega)))))))))))
    ·simp only [Int.toNat_natCast]
     rw [gd_set,if_neg (by omega)]
     exact m2 p hp
    ·simp only [Int.toNat_natCast]
     rw [gd_set,if_pos ⟨rfl,by omega⟩]
     refine (m3.set hz).congr fun k hk=>?_
     by_cases e:k=j
     ·rw [if_pos e,if_pos e];rfl
     ·simp only [if_neg e]
   ·obtain rfl:q=n:=by omega
    unfold ref04_Times.j3
    refine hgo2 _ ⟨j+1,by simp,by omega,m1,m2,m3.congr fun k hk=>?_⟩ (by simp;omega)
    by_cases e:k=j
    ·rw [if_pos e,if_pos (by omega),e];rfl
    ·have:(k<j+1) ↔ (k<j):=by omega
     rw [if_neg e];simp only [this]
  ·obtain rfl:j=c:=by omega
   unfold ref04_Times.j2
   refine hgo _ ⟨i+1,by simp,by omega,k1,fun p hp=>?_⟩ (by simp;omega)
   by_cases e:p=i
   ·rw [e];exact k3.congr fun k hk=>by rw [if_pos hk]
   ·exact k2 p (by omega)
 ·obtain rfl:i=r:=by omega
  unfold ref04_Times.j1
  exact H _ ⟨h1,h2⟩
theorem ref04_Unit_run (hn:n<=1000) (H:∀ o,RM o n n unitM->P o):(ref04_Unit.f (n:Int)).run P:=by
 unfold ref04_Unit.f
 refine W.req_i (by omega) ?_
 refine W.loop_c (fun s:List (List ref01_Q)×Int=>∃ i:Nat,s.2=i/\i<=n/\s.1.length=n/\∀ p,p<i->RL (gd s.1 p) n (unitM p)) (fun s=>n - s.2.toNat) ⟨0,rfl,Nat.zero_le _,by simp,fun p hp=>by omega⟩ ?_
 rintro ⟨o,_⟩ P1 ⟨i,rfl,hi,h1,h2⟩ hgo hbrk hout
 simp only at h1 h2 hgo |-
 unfold ref04_Unit.l1
 refine W.run_if (fun c1=>?_) (fun c1=>hbrk _ ?_)
 ·have hin:i<n:=by omega
  have e0:gd (o.set i (List.replicate n (⟨⟨[],false⟩,⟨[],false⟩⟩:ref01_Q))) i=List.replicate n ⟨⟨[],false⟩,⟨[],false⟩⟩:=by rw [gd_set,if_pos ⟨rfl,by omega⟩]
  simp only [gi_gd,Int.toNat_natCast]
  rw [e0]
  refine W.req_i (by omega) (W.req_i (by omega) (W.req_i (by simp;omega) (W.bd (ref01_Int_run (n:=1) (by show _/\_;omega) fun y hy=>W.req_i (by simp;omega) (hgo _ ⟨i+1,by simp,by omega,by simp [h1],fun p hp=>?_⟩ (by simp;omega))))))
  simp only
  rw [gd_set,gd_set]
  by_cases e:p=i
  ·subst e
   rw [if_pos ⟨rfl,by simp;omega⟩]
   refine ((RL.zero n).set hy).congr fun j hj=>?_
   unfold unitM
   rfl
  ·rw [if_neg (by omega),if_neg (by omega)];exact h2 p (by omega)
 ·obtain rfl:i=n:=by omega
  unfold ref04_Unit.j1
  exact H _ ⟨h1,h2⟩
theorem ref04_Turned_run {a:List (List ref01_Q)} (ha:RM a r c A) (hr:r<=1000) (hc:c<=1000) (H:∀ o,RM o c r (fun j i=>A i j)->P o):(ref04_Turned.f a (c:Int)).run P:=by
 have hal:=ha.1
 unfold ref04_Turned.f
 refine W.req_i (by omega) ?_
 refine W.loop_c (fun s:List (List ref01_Q)×Int=>∃ j:Nat,s.2=j/\j<=c/\s.1.length=c/\∀ p,p<j->RL (gd s.1 p) r (fun i=>A i p)) (fun s=>c - s.2.toNat) ⟨0,rfl,Nat.zero_le _,by simp,fun p hp=>by omega⟩ ?_
 rintro ⟨o,_⟩ P1 ⟨j,rfl,hj,h1,h2⟩ hgo hbrk hout
 simp only at h1 h2 hgo |-
 unfold ref04_Turned.l1
 rw [hal]
 refine W.run_if (fun c1=>?_) (fun c1=>hbrk _ ?_)
 ·have hjc:j<c:=by omega
  refine W.req_i (by omega) (W.req_i (by omega) ?_)
  refine W.loop_c (fun s:List (List ref01_Q)×Int=>∃ i:Nat,s.2=i/\i<=r/\s.1.length=c/\(∀ p,p<j->RL (gd s.1 p) r (fun i=>A i p))/\RL (gd s.1 j) r (fun k=>if k<i then A k j else 0)) (fun s=>r - s.2.toNat) ⟨0,rfl,Nat.zero_le _,by simp [h1],fun p hp=>?_,?_⟩ ?_
  ·simp only [Int.toNat_natCast]
   rw [gd_set,if_neg (by omega)]
   exact h2 p hp
  ·simp only [Int.toNat_natCast]
   rw [gd_set,if_pos ⟨rfl,by omega⟩]
   exact (RL.zero r).congr fun k hk=>by rw [if_neg (by omega)]
  rintro ⟨o2,_⟩ P2 ⟨i,rfl,hi,k1,k2,k3⟩ hgo2 hbrk2 hout2
  simp only at k1 k2 k3 hgo2 |-
  have k3l:=k3.1
  unfold ref04_Turned.l2
  simp only [gi_gd,hal]
  refine W.run_if (fun c2=>?_) (fun c2=>hbrk2 _ ?_)
  ·have hir:i<r:=by omega
   have har:=ha.2 i hir
   have harl:=har.1
   refine W.req_i (by omega) (W.req_i (by omega) (W.req_i (by omega) (W.req_i (by omega) (hgo2 _ ⟨i+1,by simp,by omega,by simp [k1],fun p hp=>?_,?_⟩ (by simp;omega)))))
   ·simp only [Int.toNat_natCast]
    rw [gd_set,if_neg (by omega)]
    exact k2 p hp
   ·simp only [Int.toNat_natCast]
    rw [gd_set,if_pos ⟨rfl,by omega⟩]
    refine (k3.set (har.2 j hjc)).congr fun k hk=>?_
    by_cases e:k=i
    ·rw [if_pos e,if_pos (by omega),e]
    ·have:(k<i+1) ↔ (k<i):=by omega
     rw [if_neg e];simp only [this]
  ·obtain rfl:i=r:=by omega
   unfold ref04_Turned.j2
   refine hgo _ ⟨j+1,by simp,by omega,k1,fun p hp=>?_⟩ (by simp;omega)
   by_cases e:p=j
   ·rw [e];exact k3.congr fun k hk=>by rw [if_pos hk]
   ·exact k2 p (by omega)
 ·obtain rfl:j=c:=by omega
  unfold ref04_Turned.j1
  exact H _ ⟨h1,h2⟩
end
section
variable {m n:api_Mat} {x:api_Rat} {Q:ToldM->Prop}
theorem ref04_both_run {Q:Int->Prop} (hm:m.V.length<=281474976710656) (hn:n.V.length<=281474976710656) (h0:matOk m->matOk n->Q 0) (h1: ¬ matOk m->Q 1) (h2:matOk m->¬ matOk n->Q 1):(ref04_both.f m n).run Q:=by
 unfold ref04_both.f
 refine W.bd (ref04_Validate_run hm (fun ok=>?_) (fun no=>?_))
 ·rw [if_neg (by decide)]
  exact W.bd (ref04_Validate_run hn (fun ok2=>h0 ok ok2) (fun no=>h2 ok no))
 ·rw [if_pos (by decide)];exact h1 no
theorem ref04_Add_run (hm:m.V.length<=281474976710656) (hn:n.V.length<=281474976710656) (H:Q (addS m n)):(ref04_Add.f m n).run Q:=by
 unfold addS at H
 unfold ref04_Add.f
 refine W.bd (ref04_both_run hm hn (fun ok1 ok2=>?_) (fun no=>?_) (fun ok1 no=>?_))
 ·rw [if_neg (nn ok1),if_neg (nn ok2)] at H
  rw [if_neg (by decide)]
  refine W.run_if (fun c1=>by rw [if_pos c1] at H;exact H) (fun c1=>W.run_if (fun c2=>by rw [if_neg c1,if_pos c2] at H;exact H) (fun c2=>?_))
  rw [if_neg c1,if_neg c2] at H
  obtain ⟨r,c,hR,hC,hr,hc⟩:=ok1.nat
  have hR2:n.R=r:=by omega
  have hC2:n.C=c:=by omega
  rw [hR,hC,hC2,Int.toNat_natCast,Int.toNat_natCast] at H
  obtain ⟨hl,hv⟩:=ok1.at hR hC
  obtain ⟨hl2,hv2⟩:=ok2.at hR2 hC2
  refine W.bd (ref04_Rows_run hR hC hr hc hl hv fun X hX=>W.bd (ref04_Rows_run hR2 hC2 hr hc hl2 hv2 fun Y hY=>?_))
  have hyl:=hY.1
  refine W.loop_c (fun s:List (List ref01_Q)×Int=>∃ i:Nat,s.2=i/\i<=r/\RM s.1 r c (fun i' j=>if i'<i then mxv m.V c i' j+mxv n.V c i' j else mxv m.V c i' j)) (fun s=>r - s.2.toNat) ⟨0,rfl,Nat.zero_le _,hX.congr fun i j _ _=>by rw [if_neg (by omega)]⟩ ?_
  rintro ⟨V,_⟩ P1 ⟨i,rfl,hi,h1⟩ hgo hbrk hout
  simp only at h1 hgo |-
  unfold ref04_Add.l1
  rw [hR]
  refine W.run_if (fun c1=>?_) (fun c1=>hbrk _ ?_)
  ·have hir:i<r:=by omega
   refine W.loop_c (fun s:List (List ref01_Q)×Int=>∃ j:Nat,s.2=j/\j<=c/\RM s.1 r c (fun i' j'=>if i'<i\/i'=i/\j'<j then mxv m.V c i' j'+mxv n.V c i' j' else mxv m.V c i' j')) (fun s=>c - s.2.toNat) ⟨0,rfl,Nat.zero_le _,h1.congr fun i' j' _ _=>?_⟩ ?_
   ·have:(i'<i\/i'=i/\j'<0) ↔ (i'<i):=by omega
    simp only [this]
   rintro ⟨V2,_⟩ P2 ⟨j,rfl,hj,k1⟩ hgo2 hbrk2 hout2
   simp only at k1 hgo2 |-
   have k1l:=k1.1
   unfold ref04_Add.l2
   rw [hC]
   simp only [gi_gd]
   refine W.run_if (fun c2=>?_) (fun c2=>hbrk2 _ ?_)
   ·have hjc:j<c:=by omega
    have hrow2:=k1.2 i hir
    have hrl2:=hrow2.1
    have hyr:=hY.2 i hir
    have hyrl:=hyr.1
    have hcell:=hrow2.2 j hjc
    dsimp only at hcell
    rw [if_neg (by omega)] at hcell
    refine W.req_i (by omega) (W.req_i (by omega) (W.req_i (by omega) (W.req_i (by omega) (W.req_i (by omega) (W.bd (ref01_Add_run hcell (hyr.2 j hjc) ((hv i j hir hjc).sz.ok (by omega)) ((hv2 i j hir hjc).sz.ok (by omega)) fun z hz=>W.req_i (by omega) (hgo2 _ ⟨j+1,by simp,by omega,?_⟩ (by simp;omega))))))))
    simp only [Int.toNat_natCast]
    refine (k1.set (hrow2.set hz)).congr fun i' j' _ _=>?_
    dsimp only
    by_cases e1:i'=i
    ·rw [if_pos e1]
     by_cases e2:j'=j
     ·rw [if_pos e2,if_pos (by omega),e1,e2]
     ·have:(i'<i\/i'=i/\j'<j+1) ↔ (i<i\/i=i/\j'<j):=by omega
      rw [if_neg e2];simp only [this];rw [e1]
    ·have:(i'<i\/i'=i/\j'<j+1) ↔ (i'<i\/i'=i/\j'<j):=by omega
     rw [if_neg e1];simp only [this]
   ·obtain rfl:j=c:=by omega
    unfold ref04_Add.j2
    refine hgo _ ⟨i+1,by simp,by omega,k1.congr fun i' j' _ hj'=>?_⟩ (by simp;omega)
    have:(i'<i\/i'=i/\j'<j) ↔ (i'<i+1):=by omega
    simp only [this]
  ·obtain rfl:i=r:=by omega
   unfold ref04_Add.j1
   rw [hC]
   exact W.bd (ref04_GiveS_run (h1.congr fun i' j' hi' _=>by rw [if_pos hi']) (by omega) (by omega) H)
 ·rw [if_pos no] at H
  rw [if_pos (by decide)];exact H
 ·rw [if_neg (nn ok1),if_pos no] at H
  rw [if_pos (by decide)];exact H
theorem ref04_Mul_run (hm:m.V.length<=281474976710656) (hn:n.V.length<=281474976710656) (H:Q (mulS m n)):(ref04_Mul.f m n).run Q:=by
 unfold mulS at H
 unfold ref04_Mul.f
 refine W.bd (ref04_both_run hm hn (fun ok1 ok2=>?_) (fun no=>?_) (fun ok1 no=>?_))
 ·rw [if_neg (nn ok1),if_neg (nn ok2)] at H
  rw [if_neg (by decide)]
  refine W.run_if (fun c1=>by rw [if_pos c1] at H;exact H) (fun c1=>?_)
  rw [if_neg c1] at H
  obtain ⟨r,k,hR,hC,hr,hk⟩:=ok1.nat
  obtain ⟨k',c,hR2,hC2,_,hc⟩:=ok2.nat
  obtain rfl:k'=k:=by omega
  rw [hR,hC,hC2,Int.toNat_natCast,Int.toNat_natCast,Int.toNat_natCast] at H
  obtain ⟨hl,hv⟩:=ok1.at hR hC
  obtain ⟨hl2,hv2⟩:=ok2.at hR2 hC2
  rw [hC2]
  exact W.bd (ref04_Rows_run hR hC hr hk hl hv fun X hX=>W.bd (ref04_Rows_run hR2 hC2 hk hc hl2 hv2 fun Y hY=>W.bd (ref04_Times_run (s:=40) hX hY hr hk hc (by omega) (fun i j hi hj=>(hv i j hi hj).sz) (fun i j hi hj=>(hv2 i j hi hj).sz) fun o ho=>W.bd (ref04_GiveS_run ho (by omega) (by omega) H))))
 ·rw [if_pos no] at H
  rw [if_pos (by decide)];exact H
 ·rw [if_neg (nn ok1),if_pos no] at H
  rw [if_pos (by decide)];exact H
theorem ref04_Scale_run (hm:m.V.length<=281474976710656) (H:Q (scaleS m x)):(ref04_Scale.f m x).run Q:=by
 unfold scaleS at H
 unfold ref04_Scale.f
 refine W.bd (ref04_Validate_run hm (fun ok=>?_) (fun no=>?_))
 ·rw [if_neg (nn ok)] at H
  rw [if_neg (by decide)]
  refine W.bd (ref01_Is_run (W.run_if (fun c=>?_) (fun c=>?_)))
  ·have hx:=of_decide_eq_true c
   rw [if_neg (nn hx)] at H
   obtain ⟨r,c,hR,hC,hr,hc⟩:=ok.nat
   rw [hR,hC,Int.toNat_natCast,Int.toNat_natCast] at H
   obtain ⟨hl,hv⟩:=ok.at hR hC
   obtain ⟨w1,w2,w3⟩:=hx.i64
   refine W.bd (ref04_Rows_run hR hC hr hc hl hv fun X hX=>W.bd (ref01_Of_run w1 w2 w3 fun y hy=>?_))
   refine W.loop_c (fun s:List (List ref01_Q)×Int=>∃ i:Nat,s.2=i/\i<=r/\RM s.1 r c (fun i' j=>if i'<i then mxv m.V c i' j*ratOf x else mxv m.V c i' j)) (fun s=>r - s.2.toNat) ⟨0,rfl,Nat.zero_le _,hX.congr fun i j _ _=>by rw [if_neg (by omega)]⟩ ?_
   rintro ⟨V,_⟩ P1 ⟨i,rfl,hi,h1⟩ hgo hbrk hout
   simp only at h1 hgo |-
   unfold ref04_Scale.l1
   rw [hR]
   refine W.run_if (fun c1=>?_) (fun c1=>hbrk _ ?_)
   ·have hir:i<r:=by omega
    refine W.loop_c (fun s:List (List ref01_Q)×Int=>∃ j:Nat,s.2=j/\j<=c/\RM s.1 r c (fun i' j'=>if i'<i\/i'=i/\j'<j then mxv m.V c i' j'*ratOf x else mxv m.V c i' j')) (fun s=>c - s.2.toNat) ⟨0,rfl,Nat.zero_le _,h1.congr fun i' j' _ _=>?_⟩ ?_
    ·have:(i'<i\/i'=i/\j'<0) ↔ (i'<i):=by omega
     simp only [this]
    rintro ⟨V2,_⟩ P2 ⟨j,rfl,hj,k1⟩ hgo2 hbrk2 hout2
    simp only at k1 hgo2 |-
    have k1l:=k1.1
    unfold ref04_Scale.l2
    rw [hC]
    simp only [gi_gd]
    refine W.run_if (fun c2=>?_) (fun c2=>hbrk2 _ ?_)
    ·have hjc:j<c:=by omega
     have hrow2:=k1.2 i hir
     have hrl2:=hrow2.1
     have hcell:=hrow2.2 j hjc
     dsimp only at hcell
     rw [if_neg (by omega)] at hcell
     refine W.req_i (by omega) (W.req_i (by omega) (W.req_i (by omega) (W.bd (ref01_Mul_run hcell hy ((hv i j hir hjc).sz.ok (by omega)) (hx.sz.ok (by omega)) fun z hz=>W.req_i (by omega) (hgo2 _ ⟨j+1,by simp,by omega,?_⟩ (by simp;omega))))))
     simp only [Int.toNat_natCast]
     refine (k1.set (hrow2.set hz)).congr fun i' j' _ _=>?_
     dsimp only
     by_cases e1:i'=i
     ·rw [if_pos e1]
      by_cases e2:j'=j
      ·rw [if_pos e2,if_pos (by omega),e1,e2]
       rfl
      ·have:(i'<i\/i'=i/\j'<j+1) ↔ (i<i\/i=i/\j'<j):=by omega
       rw [if_neg e2];simp only [this];rw [e1]
     ·have:(i'<i\/i'=i/\j'<j+1) ↔ (i'<i\/i'=i/\j'<j):=by omega
      rw [if_neg e1];simp only [this]
    ·obtain rfl:j=c:=by omega
     unfold ref04_Scale.j2
     refine hgo _ ⟨i+1,by simp,by omega,k1.congr fun i' j' _ hj'=>?_⟩ (by simp;omega)
     have:(i'<i\/i'=i/\j'<j) ↔ (i'<i+1):=by omega
     simp only [this]
   ·obtain rfl:i=r:=by omega
    unfold ref04_Scale.j1
    rw [hC]
    exact W.bd (ref04_GiveS_run (h1.congr fun i' j' hi' _=>by rw [if_pos hi']) (by omega) (by omega) H)
  ·rw [if_pos fun h=>c (decide_eq_true h)] at H
   exact H
 ·rw [if_pos no] at H
  rw [if_pos (by decide)];exact H
theorem ref04_Turn_run (hm:m.V.length<=281474976710656) (H:Q (turnS m)):(ref04_Turn.f m).run Q:=by
 unfold turnS at H
 unfold ref04_Turn.f
 refine W.bd (ref04_Validate_run hm (fun ok=>?_) (fun no=>?_))
 ·rw [if_neg (nn ok)] at H
  rw [if_neg (by decide)]
  obtain ⟨r,c,hR,hC,hr,hc⟩:=ok.nat
  obtain ⟨hl,hv⟩:=ok.at hR hC
  rw [hR,hC,Int.toNat_natCast,Int.toNat_natCast] at H
  rw [hR,hC]
  exact W.bd (ref04_Rows_run hR hC hr hc hl hv fun X hX=>W.bd (ref04_Turned_run hX (by omega) (by omega) fun o ho=>W.bd (ref04_GiveS_run ho (by omega) (by omega) H)))
 ·rw [if_pos no] at H
  rw [if_pos (by decide)];exact H
theorem ref04_Power_run {k:Int} (hm:m.V.length<=281474976710656) (H:Q (powS m k)):(ref04_Power.f m k).run Q:=by
 unfold powS at H
 unfold ref04_Power.f
 refine W.bd (ref04_Validate_run hm (fun ok=>?_) (fun no=>?_))
 ·rw [if_neg (nn ok)] at H
  rw [if_neg (by decide)]
  refine W.run_if (fun c1=>by rw [if_pos c1] at H;exact H) (fun c1=>W.run_if (fun c2=>by rw [if_neg c1,if_pos c2] at H;exact H) (fun c2=>W.run_if (fun c3=>by rw [if_neg c1,if_neg c2,if_pos c3] at H;exact H) (fun c3=>?_)))
  rw [if_neg c1,if_neg c2,if_neg c3] at H
  obtain ⟨r,c,hR,hC,hr,hc⟩:=ok.nat
  obtain rfl:c=r:=by omega
  obtain ⟨k,rfl⟩:=Int.eq_ofNat_of_zero_le (show 0<=k by omega)
  rw [hR,hC,Int.toNat_natCast,Int.toNat_natCast] at H
  obtain ⟨hl,hv⟩:=ok.at hR hC
  obtain ⟨d,d0,d1,d2⟩:=mat_cd1 hc hc hl hv ok.2.2.2
  rw [hR]
  refine W.bd (ref04_Unit_run (by omega) fun o o1=>?_)
  refine W.loop_c (fun s:List (List ref01_Q)×Int=>∃ t:Nat,s.2=t/\t<=k/\RM s.1 c c (powM c (mxv m.V c) t)) (fun s=>k - s.2.toNat) ⟨0,rfl,Nat.zero_le _,o1⟩ ?_
  rintro ⟨p,_⟩ P ⟨t,rfl,ht,h1⟩ hgo hbrk hout
  simp only at h1 hgo |-
  unfold ref04_Power.l1
  rw [hC]
  refine W.run_if (fun c4=>?_) (fun c4=>hbrk _ ?_)
  ·exact W.bd (ref04_Rows_run hR hC hc hc hl hv fun X hX=>W.bd (ref04_Times_run (s:=400000) h1 hX hc hc hc (by omega) (fun i j hi hj=>powM_sz hc d0 d1 d2 (by omega) hi hj) (fun i j hi hj=>(hv i j hi hj).sz.mono (by omega)) fun q q1=>hgo _ ⟨t+1,by simp,by omega,q1⟩ (by simp;omega)))
  ·obtain rfl:t=k:=by omega
   unfold ref04_Power.j1
   rw [hC]
   exact W.bd (ref04_GiveS_run h1 (by omega) (by omega) H)
 ·rw [if_pos no] at H
  rw [if_pos (by decide)];exact H
theorem law04_two_run {Q:Int×api_Mat->Prop} {a:api_Mat} {e:Int} (H:Q (e,a)):(law04_two.f a e).run Q:=H
theorem law04_same_run {Q:Bool->Prop} {a:api_Mat} {e:Int} (H:Q true):(law04_two_1.f a e e a).run Q:=by
 unfold law04_two_1.f
 rw [if_pos rfl]
 unfold ref04_Same.f
 rw [if_pos rfl,if_pos rfl]
 exact W.bd (W.bd (ref02_Same_refl H))
theorem law04_MatArith_run {k:Int} (hm:m.V.length<=281474976710656) (hn:n.V.length<=281474976710656):(law04_MatArith.f m n x k).run (fun b=>b=true):=by
 unfold law04_MatArith.f
 have same:∀ {F:Int->Int->W Bool},(∀ e,(F e e).run (fun b=>b=true))->(W.bind (mat_Validate.f m) fun a=>W.bind (ref04_Validate.f m) fun b=>F a b).run (fun b=>b=true):=fun {F} h=>by
  rcases Classical.em (matOk m) with ok | no
  ·exact W.bd (mat_Validate_run hm (fun _=>W.bd (ref04_Validate_run hm (fun _=>h 0) (fun no=>absurd ok no))) (fun no=>absurd ok no))
  ·exact W.bd (mat_Validate_run hm (fun ok=>absurd ok no) (fun _=>W.bd (ref04_Validate_run hm (fun ok=>absurd ok no) (fun _=>h 1))))
 refine same fun e=>?_
 rw [if_pos rfl]
 refine W.bd (mat_Add_run hm hn (W.bd (law04_two_run (W.bd (ref04_Add_run hm hn (W.bd (law04_same_run ?_)))))))
 rw [if_pos rfl]
 refine W.bd (mat_Mul_run hm hn (W.bd (law04_two_run (W.bd (ref04_Mul_run hm hn (W.bd (law04_same_run ?_)))))))
 rw [if_pos rfl]
 refine W.bd (mat_Scale_run hm (W.bd (law04_two_run (W.bd (ref04_Scale_run hm (W.bd (law04_same_run ?_)))))))
 rw [if_pos rfl]
 refine W.bd (mat_Turn_run hm (W.bd (law04_two_run (W.bd (ref04_Turn_run hm (W.bd (law04_same_run ?_)))))))
 rw [if_pos rfl]
 refine W.bd (mat_Power_run hm (W.bd (law04_two_run (W.bd (ref04_Power_run hm (W.bd (law04_same_run ?_)))))))
 rw [if_pos rfl]
 exact W.bd (law04_known_run rfl)
end
end Go.Proofs.YtlmpoindlejefaaGreat.E
