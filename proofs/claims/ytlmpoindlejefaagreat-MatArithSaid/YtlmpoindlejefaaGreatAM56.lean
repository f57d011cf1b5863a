/- Arithmetic of matrices: what is told, and what the program's tables compute. -/
import Derived.Test.YtlmpoindlejefaaGreatAM46
import Derived.Test.YtlmpoindlejefaaGreatAM49
set_option linter.unusedVariables false
set_option linter.unusedSimpArgs false
namespace Go.Proofs.YtlmpoindlejefaaGreat.E
open Go Go.RowKit
def flatM (r c:Nat) (F:Nat->Nat->Rat):List api_Rat:=(List.range r).flatMap fun i=>tolds c (F i)
theorem flatM_succ (r c:Nat) (F:Nat->Nat->Rat):flatM (r+1) c F=flatM r c F ++ tolds c (F r):=by unfold flatM;rw [List.range_succ,List.flatMap_append];simp
theorem flatM_len (r c:Nat) (F:Nat->Nat->Rat):(flatM r c F).length=r*c:=by
 induction r with
 | zero=>simp [flatM]
 | succ r ih=>rw [flatM_succ,List.length_append,ih,tolds_len,Nat.add_mul,Nat.one_mul]
def allM (r c:Nat) (F:Nat->Nat->Rat):Prop:=∀ i,i<r->allTold c (F i)
instance (n:Nat) (f:Nat->Rat):Decidable (allTold n f):=by unfold allTold;infer_instance
instance (r c:Nat) (F:Nat->Nat->Rat):Decidable (allM r c F):=by unfold allM;infer_instance
instance (m:api_Mat):Decidable (matOk m):=by unfold matOk;infer_instance
abbrev ToldM:=api_Mat×Int
def giveS (r c:Nat) (F:Nat->Nat->Rat):ToldM:=if allM r c F then (⟨r,c,flatM r c F⟩,0) else (⟨0,0,[]⟩,3)
section
variable {r c n:Nat} {A B F:Nat->Nat->Rat} {Q:ToldM->Prop} {P:qm_M->Prop}
theorem qm_Out_run {S:qm_M} (hV:QM S.V r c F) (hC:S.C=c) (hr:r<=1000) (hc:c<=1000) (H:Q (giveS r c F)):(qm_M_Out.f S).run Q:=by
 have hvl:=hV.1
 unfold giveS at H
 unfold qm_M_Out.f
 refine W.loop_c (fun s:Int×Int×List api_Rat×Int×Int×List api_Rat×Int=>∃ i:Nat,s.2.2.2.2.2.2=i/\i<=r/\s.2.2.2.1=r/\s.2.2.2.2.1=c/\s.2.2.2.2.2.1=flatM i c F/\∀ p,p<i->allTold c (F p)) (fun s=>r - s.2.2.2.2.2.2.toNat) ⟨0,rfl,Nat.zero_le _,by simp only [hvl],hC,rfl,fun p hp=>by omega⟩ ?_
 rintro ⟨a1,a2,a3,_,_,_,_⟩ P ⟨i,rfl,hi,rfl,rfl,rfl,h1⟩ hgo hbrk hout
 simp only at h1 hgo |-
 unfold qm_M_Out.l1
 simp only [gi_gd,hvl]
 refine W.run_if (fun c1=>?_) (fun c1=>hbrk _ ?_)
 ·have hir:i<r:=by omega
  have hm:=Nat.mul_le_mul hi hc
  refine W.req_i (by omega) (W.bd (num_Outs_run (hV.2 i hir) (by omega) (fun t=>?_) (fun t=>?_)))
  ·rw [if_pos rfl]
   refine W.req_i (by rw [flatM_len,tolds_len];have:=Nat.mul_le_mul hi hc;omega) (hgo _ ⟨i+1,by simp,by omega,rfl,rfl,(flatM_succ i c F).symm,fun p hp=>?_⟩ (by simp;omega))
   by_cases e:p=i
   ·rw [e];exact t
   ·exact h1 p (by omega)
  ·rw [if_neg (by simp)]
   rw [if_neg fun h=>t (h i hir)] at H
   exact hout _ H
 ·obtain rfl:i=r:=by omega
  rw [if_pos (show allM i c F from h1)] at H
  exact H
theorem ref04_GiveS_run {rows:List (List ref01_Q)} (hV:RM rows r c F) (hr:r<=1000) (hc:c<=1000) (H:Q (giveS r c F)):(ref04_Give.f rows (c:Int)).run Q:=by
 have hvl:=hV.1
 unfold giveS at H
 unfold ref04_Give.f
 refine W.loop_c (fun s:Int×Int×List api_Rat×Int×Int×List api_Rat×Int=>∃ i:Nat,s.2.2.2.2.2.2=i/\i<=r/\s.2.2.2.1=r/\s.2.2.2.2.1=c/\s.2.2.2.2.2.1=flatM i c F/\∀ p,p<i->allTold c (F p)) (fun s=>r - s.2.2.2.2.2.2.toNat) ⟨0,rfl,Nat.zero_le _,by simp only [hvl],rfl,rfl,fun p hp=>by omega⟩ ?_
 rintro ⟨a1,a2,a3,_,_,_,_⟩ P ⟨i,rfl,hi,rfl,rfl,rfl,h1⟩ hgo hbrk hout
 simp only at h1 hgo |-
 unfold ref04_Give.l1
 simp only [gi_gd,hvl]
 refine W.run_if (fun c1=>?_) (fun c1=>hbrk _ ?_)
 ·have hir:i<r:=by omega
  have hm:=Nat.mul_le_mul hi hc
  refine W.req_i (by omega) (W.bd (ref01_Rats_run (hV.2 i hir) (by omega) (fun t=>?_) (fun t=>?_)))
  ·rw [if_pos rfl]
   refine W.req_i (by rw [flatM_len,tolds_len];have:=Nat.mul_le_mul hi hc;omega) (hgo _ ⟨i+1,by simp,by omega,rfl,rfl,(flatM_succ i c F).symm,fun p hp=>?_⟩ (by simp;omega))
   by_cases e:p=i
   ·rw [e];exact t
   ·exact h1 p (by omega)
  ·rw [if_neg (by simp)]
   rw [if_neg fun h=>t (h i hir)] at H
   exact hout _ H
 ·obtain rfl:i=r:=by omega
  rw [if_pos (show allM i c F from h1)] at H
  exact H
theorem qm_Add_run {x y:qm_M} {s:Nat} (hC:x.C=c) (hx:QM x.V r c A) (hy:QM y.V r c B) (hr:r<=1000) (hc:c<=1000) (hs:s<=1000000) (sA:∀ i j,i<r->j<c->Sz s (A i j)) (sB:∀ i j,i<r->j<c->Sz s (B i j)) (H:∀ o:qm_M,o.C=c->QM o.V r c (fun i j=>A i j+B i j)->P o):(qm_M_Add.f x y).run P:=by
 have hyl:=hy.1
 unfold qm_M_Add.f
 refine W.bd (qm_Copy_run hC hx (by omega) (by omega) fun o o1 o2=>?_)
 have hol:=o2.1
 refine W.loop_c (fun s:List (List num_Q)×Int=>∃ i:Nat,s.2=i/\i<=r/\QM s.1 r c (fun i' j=>if i'<i then A i' j+B i' j else A i' j)) (fun s=>r - s.2.toNat) ⟨0,rfl,Nat.zero_le _,o2.congr fun i j _ _=>by rw [if_neg (by omega)]⟩ ?_
 rintro ⟨V,_⟩ P1 ⟨i,rfl,hi,h1⟩ hgo hbrk hout
 simp only at h1 hgo |-
 have h1l:=h1.1
 unfold qm_M_Add.l1
 rw [hol]
 refine W.run_if (fun c1=>?_) (fun c1=>hbrk _ ?_)
 ·have hir:i<r:=by omega
  have hrow:=h1.2 i hir
  have hrl:=hrow.1
  refine W.req_i (by omega) ?_
  refine W.loop_c (fun s:List (List num_Q)×Int=>∃ j:Nat,s.2=j/\j<=c/\QM s.1 r c (fun i' j'=>if i'<i\/i'=i/\j'<j then A i' j'+B i' j' else A i' j')) (fun s=>c - s.2.toNat) ⟨0,rfl,Nat.zero_le _,h1.congr fun i' j' _ _=>?_⟩ ?_
  ·have:(i'<i\/i'=i/\j'<0) ↔ (i'<i):=by omega
   simp only [this]
  rintro ⟨V2,_⟩ P2 ⟨j,rfl,hj,k1⟩ hgo2 hbrk2 hout2
  simp only at k1 hgo2 |-
  have k1l:=k1.1
  unfold qm_M_Add.l2
  simp only [gi_gd,hrl]
  refine W.run_if (fun c2=>?_) (fun c2=>hbrk2 _ ?_)
  ·have hjc:j<c:=by omega
   have hrow2:=k1.2 i hir
   have hrl2:=hrow2.1
   have hyr:=hy.2 i hir
   have hyrl:=hyr.1
   have hcell:=hrow2.2 j hjc
   dsimp only at hcell
   rw [if_neg (by omega)] at hcell
   refine W.req_i (by omega) (W.req_i (by omega) (W.req_i (by omega) (W.req_i (by omega) (W.req_i (by omega) (W.bd (num_Q_Add_run hcell (hyr.2 j hjc) ((sA i j hir hjc).ok (by omega)) ((sB i j hir hjc).ok (by omega)) fun z hz=>W.req_i (by omega) (hgo2 _ ⟨j+1,by simp,by omega,?_⟩ (by simp;omega))))))))
   simp only [Int.toNat_natCast]
   refine (k1.set (hrow2.set hz)).congr fun i' j' _ _=>?_
   dsimp only
   by_cases e1:i'=i
   ·rw [if_pos e1]
    by_cases e2:j'=j
    ·rw [if_pos e2,if_pos (by omega),e1,e2]
    ·have:(i'<i\/i'=i/\j'<j+1) ↔ (i<i\/i=i/\j'<j):=by omega
     rw [if_neg e2];simp only [this];rw [e1]
   ·have:(i'<i\/i'=i/\j'<j+1) ↔ (i'<i\/i'=i/\j'<j):=by omega
    rw [if_neg e1];simp only [this]
  ·obtain rfl:j=c:=by omega
   unfold qm_M_Add.j2
   refine hgo _ ⟨i+1,by simp,by omega,k1.congr fun i' j' _ hj'=>?_⟩ (by simp;omega)
   have:(i'<i\/i'=i/\j'<j) ↔ (i'<i+1):=by omega
   simp only [this]
 ·obtain rfl:i=r:=by omega
  unfold qm_M_Add.j1
  exact H _ o1 (h1.congr fun i' j' hi' _=>by rw [if_pos hi'])
theorem qm_Scale_run {x:qm_M} {y:num_Q} {q:Rat} {s:Nat} (hC:x.C=c) (hx:QM x.V r c A) (hy:QRep y q) (hr:r<=1000) (hc:c<=1000) (hs:s<=1000000) (sA:∀ i j,i<r->j<c->Sz s (A i j)) (sq:Sz s q) (H:∀ o:qm_M,o.C=c->QM o.V r c (fun i j=>A i j*q)->P o):(qm_M_Scale.f x y).run P:=by
 unfold qm_M_Scale.f
 refine W.bd (qm_Copy_run hC hx (by omega) (by omega) fun o o1 o2=>?_)
 have hol:=o2.1
 refine W.loop_c (fun s:List (List num_Q)×Int=>∃ i:Nat,s.2=i/\i<=r/\QM s.1 r c (fun i' j=>if i'<i then A i' j*q else A i' j)) (fun s=>r - s.2.toNat) ⟨0,rfl,Nat.zero_le _,o2.congr fun i j _ _=>by rw [if_neg (by omega)]⟩ ?_
 rintro ⟨V,_⟩ P1 ⟨i,rfl,hi,h1⟩ hgo hbrk hout
 simp only at h1 hgo |-
 have h1l:=h1.1
 unfold qm_M_Scale.l1
 rw [hol]
 refine W.run_if (fun c1=>?_) (fun c1=>hbrk _ ?_)
 ·have hir:i<r:=by omega
  have hrow:=h1.2 i hir
  have hrl:=hrow.1
  refine W.req_i (by omega) ?_
  refine W.loop_c (fun s:List (List num_Q)×Int=>∃ j:Nat,s.2=j/\j<=c/\QM s.1 r c (fun i' j'=>if i'<i\/i'=i/\j'<j then A i' j'*q else A i' j')) (fun s=>c - s.2.toNat) ⟨0,rfl,Nat.zero_le _,h1.congr fun i' j' _ _=>?_⟩ ?_
  ·have:(i'<i\/i'=i/\j'<0) ↔ (i'<i):=by omega
   simp only [this]
  rintro ⟨V2,_⟩ P2 ⟨j,rfl,hj,k1⟩ hgo2 hbrk2 hout2
  simp only at k1 hgo2 |-
  have k1l:=k1.1
  unfold qm_M_Scale.l2
  simp only [gi_gd,hrl]
  refine W.run_if (fun c2=>?_) (fun c2=>hbrk2 _ ?_)
  ·have hjc:j<c:=by omega
   have hrow2:=k1.2 i hir
   have hrl2:=hrow2.1
   have hcell:=hrow2.2 j hjc
   dsimp only at hcell
   rw [if_neg (by omega)] at hcell
   refine W.req_i (by omega) (W.req_i (by omega) (W.req_i (by omega) (W.bd (num_Q_Mul_run hcell hy ((sA i j hir hjc).ok (by omega)) (sq.ok (by omega)) fun z hz=>W.req_i (by omega) (hgo2 _ ⟨j+1,by simp,by omega,?_⟩ (by simp;omega))))))
   simp only [Int.toNat_natCast]
   refine (k1.set (hrow2.set hz)).congr fun i' j' _ _=>?_
   dsimp only
   by_cases e1:i'=i
   ·rw [if_pos e1]
    by_cases e2:j'=j
    ·rw [if_pos e2,if_pos (by omega),e1,e2]
    ·have:(i'<i\/i'=i/\j'<j+1) ↔ (i<i\/i=i/\j'<j):=by omega
     rw [if_neg e2];simp only [this];rw [e1]
   ·have:(i'<i\/i'=i/\j'<j+1) ↔ (i'<i\/i'=i/\j'<j):=by omega
    rw [if_neg e1];simp only [this]
  ·obtain rfl:j=c:=by omega
   unfold qm_M_Scale.j2
   refine hgo _ ⟨i+1,by simp,by omega,k1.congr fun i' j' _ hj'=>?_⟩ (by simp;omega)
   have:(i'<i\/i'=i/\j'<j) ↔ (i'<i+1):=by omega
   simp only [this]
 ·obtain rfl:i=r:=by omega
  unfold qm_M_Scale.j1
  exact H _ o1 (h1.congr fun i' j' hi' _=>by rw [if_pos hi'])
def mulM (n:Nat) (A B:Nat->Nat->Rat) (i j:Nat):Rat:=sm n fun k=>A i k*B k j
theorem qm_Mul_run {x y:qm_M} {s:Nat} (hx:QM x.V r n A) (hD:y.C=c) (hy:QM y.V n c B) (hr:r<=12) (hn:n<=12) (hc:c<=12) (hs:s<=1000000) (sA:∀ i k,i<r->k<n->Sz s (A i k)) (sB:∀ k j,k<n->j<c->Sz s (B k j)) (H:∀ o:qm_M,o.C=c->QM o.V r c (mulM n A B)->P o):(qm_M_Mul.f x y).run P:=by
 have hxl:=hx.1
 have hyl:=hy.1
 have sp:∀ i j k,i<r->j<c->k<=n->Sz 30000000 (sm k fun k=>A i k*B k j):=fun i j k hi hj hk=>(Sz.sm fun q hq=>(sA i q hi (by omega)).mul (sB q j (by omega) hj)).mono (by have:=Nat.mul_le_mul (show k<=12 by omega) (show s+s+1<=2000001 by omega);omega)
 unfold qm_M_Mul.f
 rw [hxl,hD]
 refine W.bd (qm_New_run (by omega) (by omega) fun o o1 o2=>?_)
 refine W.loop_c (fun s:List (List num_Q)×Int=>∃ i:Nat,s.2=i/\i<=r/\QM s.1 r c (fun i' j=>if i'<i then mulM n A B i' j else 0)) (fun s=>r - s.2.toNat) ⟨0,rfl,Nat.zero_le _,o2.congr fun i j _ _=>by rw [if_neg (by omega)]⟩ ?_
 rintro ⟨V,_⟩ P1 ⟨i,rfl,hi,h1⟩ hgo hbrk hout
 simp only at h1 hgo |-
 unfold qm_M_Mul.l1
 rw [hxl]
 refine W.run_if (fun c1=>?_) (fun c1=>hbrk _ ?_)
 ·have hir:i<r:=by omega
  have hxr:=hx.2 i hir
  have hxrl:=hxr.1
  refine W.loop_c (fun s:List (List num_Q)×Int=>∃ k:Nat,s.2=k/\k<=n/\QM s.1 r c (fun i' j=>if i'=i then sm k (fun k=>A i k*B k j) else if i'<i then mulM n A B i' j else 0)) (fun s=>n - s.2.toNat) ⟨0,rfl,Nat.zero_le _,h1.congr fun i' j' _ _=>?_⟩ ?_
  ·by_cases e:i'=i
   ·rw [if_pos e,if_neg (by omega)];rfl
   ·rw [if_neg e]
  rintro ⟨V2,_⟩ P2 ⟨k,rfl,hk,k1⟩ hgo2 hbrk2 hout2
  simp only at k1 hgo2 |-
  unfold qm_M_Mul.l2
  simp only [gi_gd,hyl]
  refine W.run_if (fun c2=>?_) (fun c2=>hbrk2 _ ?_)
  ·have hkn:k<n:=by omega
   have hyr:=hy.2 k hkn
   have hyrl:=hyr.1
   refine W.req_i (by omega) (W.req_i (by omega) (W.bd (num_Q_IsZero_run (hxr.2 k hkn) (W.run_if (fun c3=>?_) (fun c3=>W.req_i (by omega) ?_)))))
   ·have hz:=of_decide_eq_true c3
    unfold qm_M_Mul.j3
    refine hgo2 _ ⟨k+1,by simp,by omega,k1.congr fun i' j' _ _=>?_⟩ (by simp;omega)
    by_cases e:i'=i
    ·rw [if_pos e,if_pos e,sm,hz,Rat.zero_mul,Rat.add_zero]
    ·rw [if_neg e,if_neg e]
   refine W.loop_c (fun s:List (List num_Q)×Int=>∃ j:Nat,s.2=j/\j<=c/\QM s.1 r c (fun i' j'=>if i'=i then (if j'<j then sm (k+1) (fun k=>A i k*B k j') else sm k (fun k=>A i k*B k j')) else if i'<i then mulM n A B i' j' else 0)) (fun s=>c - s.2.toNat) ⟨0,rfl,Nat.zero_le _,k1.congr fun i' j' _ _=>by rw [if_neg (show ¬ j'<0 by omega)]⟩ ?_
   rintro ⟨V3,_⟩ P3 ⟨j,rfl,hj,m1⟩ hgo3 hbrk3 hout3
   simp only at m1 hgo3 |-
   have m1l:=m1.1
   unfold qm_M_Mul.l3
   simp only [gi_gd,hyrl]
   refine W.run_if (fun c4=>?_) (fun c4=>hbrk3 _ ?_)
   ·have hjc:j<c:=by omega
    have hrow:=m1.2 i hir
    have hrl:=hrow.1
    have hcell:=hrow.2 j hjc
    dsimp only at hcell
    rw [if_pos rfl,if_neg (by omega)] at hcell
    refine W.req_i (by omega) (W.req_i (by omega) (W.req_i (by omega) (W.req_i (by omega) (W.req_i (by omega) (W.req_i (by omega) (W.req_i (by omega) (W.bd (num_Q_Mul_run (hxr.2 k hkn) (hyr.2 j hjc) ((sA i k hir hkn).ok (by omega)) ((sB k j hkn hjc).ok (by omega)) fun u hu=>W.bd (num_Q_Add_run hcell hu ((sp i j k hir hjc hk).ok (by omega)) (((sA i k hir hkn).mul (sB k j hkn hjc)).ok (by omega)) fun z hz=>W.req_i (by omega) (hgo3 _ ⟨j+1,by simp,by omega,?_⟩ (by simp;omega)))))))))))
    simp only [Int.toNat_natCast]
    refine (m1.set (hrow.set hz)).congr fun i' j' _ _=>?_
    dsimp only
    by_cases e1:i'=i
    ·rw [if_pos e1,if_pos e1]
     by_cases e2:j'=j
     ·rw [if_pos e2,if_pos (by omega),e2,sm]
     ·have:(j'<j+1) ↔ (j'<j):=by omega
      rw [if_neg e2,if_pos rfl];simp only [this]
    ·simp only [if_neg e1]
   ·obtain rfl:j=c:=by omega
    unfold qm_M_Mul.j3
    refine hgo2 _ ⟨k+1,by simp,by omega,m1.congr fun i' j' _ hj'=>?_⟩ (by simp;omega)
    rw [if_pos hj']
  ·obtain rfl:k=n:=by omega
   unfold qm_M_Mul.j2
   refine hgo _ ⟨i+1,by simp,by omega,k1.congr fun i' j' _ _=>?_⟩ (by simp;omega)
   by_cases e:i'=i
   ·rw [if_pos e,if_pos (by omega),e];rfl
   ·have:(i'<i+1) ↔ (i'<i):=by omega
    rw [if_neg e];simp only [this]
 ·obtain rfl:i=r:=by omega
  unfold qm_M_Mul.j1
  exact H _ o1 (h1.congr fun i' j' hi' _=>by rw [if_pos hi'])
def unitM (i j:Nat):Rat:=if j=i then 1 else 0
theorem qm_Unit_run (hr:r<=1000) (H:∀ o:qm_M,o.C=r->QM o.V r r unitM->P o):(qm_Unit.f (r:Int)).run P:=by
 unfold qm_Unit.f
 refine W.bd (qm_New_run (by omega) (by omega) fun o o1 o2=>?_)
 have hol:=o2.1
 refine W.loop_c (fun s:List (List num_Q)×Int=>∃ i:Nat,s.2=i/\i<=r/\QM s.1 r r (fun i' j=>if i'<i then unitM i' j else 0)) (fun s=>r - s.2.toNat) ⟨0,rfl,Nat.zero_le _,o2.congr fun i j _ _=>by rw [if_neg (by omega)]⟩ ?_
 rintro ⟨V,_⟩ P1 ⟨i,rfl,hi,h1⟩ hgo hbrk hout
 simp only at h1 hgo |-
 have h1l:=h1.1
 unfold qm_Unit.l1
 simp only [gi_gd,hol]
 refine W.run_if (fun c1=>?_) (fun c1=>hbrk _ ?_)
 ·have hir:i<r:=by omega
  have hrow:=h1.2 i hir
  have hrl:=hrow.1
  refine W.req_i (by omega) (W.bd (num_Q_Int_run (n:=1) (by show _/\_;omega) fun z hz=>W.req_i (by omega) (hgo _ ⟨i+1,by simp,by omega,?_⟩ (by simp;omega))))
  simp only [Int.toNat_natCast]
  refine (h1.set (hrow.set hz)).congr fun i' j' _ _=>?_
  dsimp only
  by_cases e1:i'=i
  ·rw [if_pos e1,if_pos (show i'<i+1 by omega)]
   unfold unitM
   by_cases e2:j'=i
   ·rw [if_pos e2,if_pos (show j'=i' by omega)];rfl
   ·rw [if_neg e2,if_neg (show ¬ i<i by omega),if_neg (show ¬ j'=i' by omega)]
  ·have:(i'<i+1) ↔ (i'<i):=by omega
   rw [if_neg e1];simp only [this]
 ·obtain rfl:i=r:=by omega
  unfold qm_Unit.j1
  exact H _ o1 (h1.congr fun i' j' hi' _=>by rw [if_pos hi'])
def powM (n:Nat) (A:Nat->Nat->Rat):Nat->Nat->Nat->Rat
 | 0=>unitM
 | t+1=>mulM n (powM n A t) A
theorem powM_fd {d:Int} (hn:n<=12) (d0:d≠0) (d1:Bt 5761 d) (d2:∀ i j,i<n->j<n->Fd d 5761 (A i j)):∀ t i j,i<n->j<n->Fd (d ^ t) (t*5773+1) (powM n A t i j)
 | 0,i,j,_,_=>by
  rw [Int.pow_zero,powM]
  unfold unitM
  split
  ·exact Fd.one (by decide) (by decide)
  ·exact Fd.zero
 | t+1,i,j,hi,hj=>by
  have ih:=powM_fd hn d0 d1 d2 t
  rw [Int.pow_succ,powM]
  have:=Fd.sm (n:=n) (f:=fun k=>powM n A t i k*A k j) fun k hk=>(ih i k hi hk).mul (d2 k j hk hj) (pow_ne d0 t) d0
  exact this.mono (by omega)
theorem powM_sz {d:Int} (hn:n<=12) (d0:d≠0) (d1:Bt 5761 d) (d2:∀ i j,i<n->j<n->Fd d 5761 (A i j)) {t:Nat} (ht:t<=60) {i j:Nat} (hi:i<n) (hj:j<n):Sz 400000 (powM n A t i j):=
 ((powM_fd hn d0 d1 d2 t i j hi hj).mono (t:=400000) (by omega)).sz (pow_ne d0 t) (show Bt 400000 (d ^ t) from (d1.pow t).mono (by omega))
end
end Go.Proofs.YtlmpoindlejefaaGreat.E
