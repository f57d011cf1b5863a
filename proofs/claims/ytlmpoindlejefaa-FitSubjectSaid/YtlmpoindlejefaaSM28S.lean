/- The reference's sums of a fit. -/
import Derived.Test.YtlmpoindlejefaaSM27
set_option linter.unusedVariables false
set_option linter.unusedSimpArgs false
namespace Go.Proofs.Ytlmpoindlejefaa.E
open Go Go.RowKit
def gVf (v:List api_Rat) (c n:Nat) (B:Nat->Rat) (i:Nat):Rat:=sm n (fun j=>mxv v c j i*B j)
def PM (rows:List (List ref01_Q)) (c i:Nat) (G:Nat->Nat->Rat) (F:Nat->Rat):Prop:=rows.length=c/\(∀ j,j<i->RL (gd rows j) c (G j))/\RL (gd rows i) c F
theorem PM.set {rows:List (List ref01_Q)} {c i k:Nat} {G:Nat->Nat->Rat} {F F':Nat->Rat} {q:ref01_Q} {y:Rat} (h:PM rows c i G F) (hi:i<c) (hq:RRep q y) (hF:∀ j,j<c->(if j=k then y else F j)=F' j):PM (rows.set i ((gd rows i).set k q)) c i G F':=by
 have hl:=h.1
 refine ⟨by simp [h.1],fun j hj=>?_,?_⟩
 ·rw [gd_set,if_neg (by omega)];exact h.2.1 j hj
 ·rw [gd_set,if_pos ⟨rfl,by omega⟩]
  exact (h.2.2.set hq).congr hF
theorem ref27_sums_run {m:api_Mat} {b:List ref01_Q} {r c:Nat} {B:Nat->Rat} {Q:List (List ref01_Q)×List ref01_Q×ref01_Q->Prop} (ok:matOk m) (hR:m.R=r) (hC:m.C=c) (hb:RL b r B) (sB:∀ j,j<r->Sz 40 (B j))
  (H:∀ N V q,RM N c c (gA m.V c r)->RL V c (gVf m.V c r B)->RRep q (sm r (fun j=>B j*B j))->Q (N,V,q)):(ref27_sums.f m b).run Q:=by
 obtain ⟨hl,hv⟩:=ok.at hR hC
 have hr12:r<=12:=by have:=ok.1;omega
 have hc12:c<=12:=by have:=ok.2.1;omega
 have hbl:=hb.1
 have sx:∀ j i,j<r->i<c->Sz 40 (mxv m.V c j i):=fun j i hj hi=>(hv j i hj hi).sz
 unfold ref27_sums.f
 refine W.bd (ref04_Rows_run hR hC hr12 hc12 hl hv fun R hRM=>?_)
 have hRl:=hRM.1
 rw [hC,Int.toNat_natCast]
 refine W.req_i (by omega) (W.req_i (by omega) ?_)
 refine W.loop_c (fun s:List (List ref01_Q)×List ref01_Q×Int=>∃ i:Nat,s.2.2=i/\i<=c/\s.1.length=c/\(∀ j,j<i->RL (gd s.1 j) c (gA m.V c r j))/\RL s.2.1 c (fun j=>if j<i then gVf m.V c r B j else 0)) (fun s=>c - s.2.2.toNat) ⟨0,rfl,Nat.zero_le _,by simp,fun j hj=>by omega,(RL.zero c).congr fun j _=>by rw [if_neg (by omega)]⟩ ?_
 rintro ⟨N,V,_⟩ P ⟨i,rfl,hi,h1,h2,h3⟩ hgo hbrk hout
 simp only at h1 h2 h3 hgo |-
 have hVl:=h3.1
 unfold ref27_sums.l2
 rw [hC]
 simp only [Int.toNat_natCast,List.length_replicate,List.length_set]
 refine W.run_if (fun c1=>?_) (fun c1=>hbrk _ ?_)
 ·have hic:i<c:=by omega
  refine W.req_i (by omega) (W.req_i (by omega) (W.req_i (by omega) ?_))
  refine W.loop_c (fun s:List (List ref01_Q)×Int=>∃ k:Nat,s.2=k/\k<=c/\PM s.1 c i (gA m.V c r) (fun j=>if j<k then gA m.V c r i j else 0)) (fun s=>c - s.2.toNat) ⟨0,rfl,Nat.zero_le _,by simp [h1],fun j hj=>?_,?_⟩ ?_
  ·simp only
   rw [gd_set,if_neg (by omega)];exact h2 j hj
  ·simp only
   rw [gd_set,if_pos ⟨rfl,by omega⟩]
   exact (RL.zero c).congr fun j _=>by rw [if_neg (by omega)]
  rintro ⟨N2,_⟩ P2 ⟨k,rfl,hk,k1⟩ hgo2 hbrk2 hout2
  simp only at k1 hgo2 |-
  unfold ref27_sums.l4
  rw [hC]
  have el:((gi (N.set i (List.replicate c (⟨⟨[],false⟩,⟨[],false⟩⟩:ref01_Q))) (i:Int)).length:Int)=c:=by
   rw [gi_gd,gd_set,if_pos ⟨rfl,by omega⟩];simp
  simp only [Int.toNat_natCast,el]
  refine W.run_if (fun c2=>?_) (fun c2=>hbrk2 _ ?_)
  ·have hkc:k<c:=by omega
   refine W.loop_c (fun s:List (List ref01_Q)×Int=>∃ t:Nat,s.2=t/\t<=r/\PM s.1 c i (gA m.V c r) (fun j=>if j<k then gA m.V c r i j else if j=k then gA m.V c t i j else 0)) (fun s=>r - s.2.toNat) ⟨0,rfl,Nat.zero_le _,k1.1,k1.2.1,k1.2.2.congr fun j _=>?_⟩ ?_
   ·by_cases e:j<k
    ·simp [e]
    ·rw [if_neg e,if_neg e]
     split
     ·rfl
     ·rfl
   rintro ⟨N3,_⟩ P3 ⟨t,rfl,ht,t1⟩ hgo3 hbrk3 hout3
   simp only at t1 hgo3 |-
   have hN3:=t1.1
   have hrow:=t1.2.2
   have hrl:=hrow.1
   unfold ref27_sums.l5
   simp only [gi_gd,Int.toNat_natCast]
   refine W.run_if (fun c3=>?_) (fun c3=>hbrk3 _ ?_)
   ·have htr:t<r:=by omega
    have hRt:=hRM.2 t htr
    have hRtl:=hRt.1
    have hcell:=hrow.2 k hkc
    dsimp only at hcell
    rw [if_neg (Nat.lt_irrefl _),if_pos rfl] at hcell
    have sG:Sz 973 (gA m.V c t i k):=(Sz.sm fun j hj=>(sx j i (by omega) hic).mul (sx j k (by omega) hkc)).mono (by omega)
    refine W.req_i (by omega) (W.req_i (by omega) (W.req_i (by omega) (W.req_i (by omega) (W.req_i (by omega) (W.req_i (by omega) (W.req_i (by omega) (W.bd (ref01_Mul_run (hRt.2 i hic) (hRt.2 k hkc) ((sx t i htr hic).ok (by omega)) ((sx t k htr hkc).ok (by omega)) fun x hx=>W.bd (ref01_Add_run hcell hx (sG.ok (by omega)) (((sx t i htr hic).mul (sx t k htr hkc)).ok (by omega)) fun z hz=>W.req_i (by omega) (hgo3 _ ⟨t+1,by simp,by omega,t1.set hic hz fun j hj=>?_⟩ (by simp;omega)))))))))))
    by_cases e:j=k
    ·subst e
     rw [if_pos rfl,if_neg (Nat.lt_irrefl _),if_pos rfl];rfl
    ·rw [if_neg e,if_neg e,if_neg e]
   ·obtain rfl:t=r:=by omega
    unfold ref27_sums.j5
    refine hgo2 _ ⟨k+1,by simp,by omega,t1.1,t1.2.1,t1.2.2.congr fun j _=>?_⟩ (by simp;omega)
    by_cases e:j=k
    ·subst e;simp
    ·have:(j<k+1) ↔ (j<k):=by omega
     simp [e,this]
  ·obtain rfl:k=c:=by omega
   unfold ref27_sums.j4
   refine W.loop_c (fun s:List ref01_Q×Int=>∃ t:Nat,s.2=t/\t<=r/\RL s.1 k (fun j=>if j<i then gVf m.V k r B j else if j=i then gVf m.V k t B j else 0)) (fun s=>r - s.2.toNat) ⟨0,rfl,Nat.zero_le _,h3.congr fun j _=>?_⟩ ?_
   ·by_cases e:j<i
    ·simp [e]
    ·rw [if_neg e,if_neg e]
     split
     ·rfl
     ·rfl
   rintro ⟨V2,_⟩ P3 ⟨t,rfl,ht,t1⟩ hgo3 hbrk3 hout3
   simp only at t1 hgo3 |-
   have hV2:=t1.1
   unfold ref27_sums.l3
   simp only [gi_gd,Int.toNat_natCast]
   refine W.run_if (fun c3=>?_) (fun c3=>hbrk3 _ ?_)
   ·have htr:t<r:=by omega
    have hRt:=hRM.2 t htr
    have hRtl:=hRt.1
    have hcell:=t1.2 i hic
    dsimp only at hcell
    rw [if_neg (Nat.lt_irrefl _),if_pos rfl] at hcell
    have sG:Sz 973 (gVf m.V k t B i):=(Sz.sm fun j hj=>(sx j i (by omega) hic).mul (sB j (by omega))).mono (by omega)
    refine W.req_i (by omega) (W.req_i (by omega) (W.req_i (by omega) (W.req_i (by omega) (W.bd (ref01_Mul_run (hRt.2 i hic) (hb.2 t htr) ((sx t i htr hic).ok (by omega)) ((sB t htr).ok (by omega)) fun x hx=>W.bd (ref01_Add_run hcell hx (sG.ok (by omega)) (((sx t i htr hic).mul (sB t htr)).ok (by omega)) fun z hz=>W.req_i (by omega) (hgo3 _ ⟨t+1,by simp,by omega,(t1.set hz).congr fun j hj=>?_⟩ (by simp;omega))))))))
    by_cases e:j=i
    ·subst e
     rw [if_pos rfl,if_neg (Nat.lt_irrefl _),if_pos rfl];rfl
    ·rw [if_neg e,if_neg e,if_neg e]
   ·obtain rfl:t=r:=by omega
    unfold ref27_sums.j3
    refine hgo _ ⟨i+1,by simp,by omega,k1.1,fun j hj=>?_,t1.congr fun j _=>?_⟩ (by simp;omega)
    ·by_cases e:j=i
     ·subst e;exact k1.2.2.congr fun j' hj'=>by rw [if_pos hj']
     ·exact k1.2.1 j (by omega)
    ·by_cases e:j=i
     ·subst e;simp
     ·have:(j<i+1) ↔ (j<i):=by omega
      simp [e,this]
 ·obtain rfl:i=c:=by omega
  unfold ref27_sums.j1
  refine W.loop_c (fun s:ref01_Q×Int=>∃ t:Nat,s.2=t/\t<=r/\RRep s.1 (sm t (fun j=>B j*B j))) (fun s=>r - s.2.toNat) ⟨0,rfl,Nat.zero_le _,RRep.zero⟩ ?_
  rintro ⟨q,_⟩ P3 ⟨t,rfl,ht,t1⟩ hgo3 hbrk3 hout3
  simp only at t1 hgo3 |-
  unfold ref27_sums.l1
  simp only [gi_gd]
  refine W.run_if (fun c3=>?_) (fun c3=>hbrk3 _ ?_)
  ·have htr:t<r:=by omega
   have sG:Sz 973 (sm t (fun j=>B j*B j)):=(Sz.sm fun j hj=>(sB j (by omega)).mul (sB j (by omega))).mono (by omega)
   exact W.req_i (by omega) (W.bd (ref01_Mul_run (hb.2 t htr) (hb.2 t htr) ((sB t htr).ok (by omega)) ((sB t htr).ok (by omega)) fun x hx=>W.bd (ref01_Add_run t1 hx (sG.ok (by omega)) (((sB t htr).mul (sB t htr)).ok (by omega)) fun z hz=>hgo3 _ ⟨t+1,by simp,by omega,hz⟩ (by simp;omega))))
  ·obtain rfl:t=r:=by omega
   unfold ref27_sums.j2
   exact H _ _ _ ⟨h1,h2⟩ (h3.congr fun j hj=>by rw [if_pos hj]) t1
end Go.Proofs.Ytlmpoindlejefaa.E
