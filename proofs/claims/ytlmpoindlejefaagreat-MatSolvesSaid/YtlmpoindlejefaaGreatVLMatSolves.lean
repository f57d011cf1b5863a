/-
  Proved: for every input, MatSolves (isoclinelaw04) returns true, and each argument reads afterwards as it read before. No condition.
-/
import Derived.Test.YtlmpoindlejefaaGreatRows
import Derived.Test.YtlmpoindlejefaaGreatVD4
import Derived.Test.YtlmpoindlejefaaGreatVM49
import Derived.Test.YtlmpoindlejefaaGreatVL1
set_option linter.unusedVariables false
namespace Go.Proofs.YtlmpoindlejefaaGreat.matSolves
open Go Go.ChangeShapes Go.WideShapes Go.ChangeAt Go.RowKit E
theorem own:ownKnob Tryz.prog.godebug=none:=by kernel_rfl
theorem laidOut:laidOutB Tryz.prog=true:=by kernel_rfl
theorem k1:Tryz.prog.cellsOf 3=1:=by kernel_rfl
theorem k2:Tryz.prog.cellsOf 22=1:=by kernel_rfl
theorem k3:Tryz.prog.cellsOf 39=2:=by kernel_rfl
theorem k5:Tryz.prog.bytesOf 39=16:=by kernel_rfl
set_option maxRecDepth 100000 in
set_option maxHeartbeats 4000000 in
theorem lifted (os:Os) (started:os.Started) (H:Type) (enc:TypeId×Value->H) :
  ReturnsInHanded {} Tryz.checked os 3 .any (Rows.matSolvesSpec.pre6 enc Tryz.prog Tryz.f3 Rows.matSolvesRow.domain false) (Rows.matSolvesSpec.post enc Tryz.prog Tryz.f3 false true false false):=by
 refine returnsInHanded_of_change_sized (C:=Tryz.checked) own started (by kernel_rfl) Tryz.func3
  (ChangeSpec.witness6 (enc:=enc) (C:=Tryz.checked) false ⟨#[],#[.agg #[.int .i64 0,.int .i64 0,.slice none 0 0],.slice none 0 0],[]⟩ 8 (by kernel_rfl) (by kernel_rfl) (by kernel_rfl) (by kernel_rfl)) ?_
 intro W base args ds gs before hval0 hW hcnd hsz0 _
 have hsz:(DataW.weightsEach Tryz.prog (Tryz.f3.params.toList ++ Rows.matSolvesSpec.plain.varTypes Tryz.prog) (ds ++ gs)).all (· <=reachBytes)=true:=hsz0
 have hval:∀ (j:Nat) t v,Tryz.f3.params[j]? =some t->args[j]? =some v->Value.okWide Tryz.prog W .any base t v:=hval0
 have hW':=hW
 obtain ⟨p,q,hA0,hV,rfl,hfz,hnd⟩:=hW
 have hA:DataW.TrodAll enc Tryz.prog W 0 (fun _=>true) true Tryz.f3.params.toList args.toList ds p:=hA0
 rw [Tryz.params3] at hA hval hsz
 obtain ⟨v0,vs0,d0,ds0,p0,q0,hargs,rfl,rfl,h0,r0⟩:=trodAll_cons hA
 obtain ⟨v1,vs1,d1,ds1,p1,q1,rfl,rfl,rfl,h1,r1⟩:=trodAll_cons r0
 obtain ⟨rfl,rfl,rfl⟩:=trodAll_nil r1
 obtain rfl:args= #[v0,v1]:=by cases args;simp_all
 obtain ⟨rfl,rfl⟩:=trodVars_none hV
 obtain ⟨cs0,rfl,hs0⟩:=okWide_struct Tryz.underlying24 (hval 0 24 v0 rfl rfl)
 obtain ⟨u0,u1,u2,rfl⟩:=three (hs0.trans (by kernel_rfl))
 obtain ⟨s1,m1,t1,rfl⟩:=okWide_slice Tryz.underlying22 (hval 1 22 v1 rfl rfl)
 have j0:=h0
 have j1:=h1
 have lt:∀ {t v d p},DataW.Trod enc Tryz.prog W 0 (fun _=>true) true t v d p->∀ x ∈ p,x.block<W.heap.size:=fun ⟨m,hm⟩=>DataW.trod_lt m _ _ _ hm
 obtain ⟨n0,h0⟩:=h0
 obtain ⟨n1,h1⟩:=h1
 obtain ⟨x0,A0,c0,rfl,rfl,rfl,hI0,hI1,hc0,hb0,hR0⟩:=open_mat_n (wts (t:=24) (j:=0) hsz rfl rfl) Tryz.underlying24 rfl rfl rfl k1 k1 k2 Tryz.underlying3 Tryz.underlying3 Tryz.underlying22 Tryz.underlying39 k3 rfl rfl k1 k1 Tryz.underlying3 Tryz.underlying3 k5 (by decide) h0
 obtain ⟨x1,A1,c1,e1,hc1,hb1,hR1⟩:=open_slice_n (wts (t:=22) (j:=1) hsz rfl rfl) Tryz.underlying22 Tryz.underlying39 k3 rfl rfl k1 k1 Tryz.underlying3 Tryz.underlying3 k5 (by decide) (show DataW.trod enc Tryz.prog W 0 (fun _=>true) true n1 22 [.slice s1 m1 t1] =_ from h1)
 obtain ⟨rfl,rfl,rfl⟩:=Value.slice.inj e1
 clear hA0 hval0 hsz0 hsz
 have hb:∀ (x:List api_Rat) (A:Option Addr),Rd k_api_Rat (fun _=>False) W A x->Rn1 (fun b=>W.heap.size<=b) k_api_Rat (fun _=>False) W A x:=fun x A h=>Rn1.re (Rd.rn1 h) (fun b hb hw=>absurd hb (Nat.not_lt.2 hw))
 refine (law04_MatSolves_calls x0 A0 c0 x1 _ _ (fun _=>False) W (fun _ h=>h.elim) hI0 hI1 hc0 hb0 (hb _ _ hR0) hc1 hb1 (hb _ _ hR1) (fun b=>b=true) (law04_MatSolves_run hb0 hb1)).mono fun e W' he=>?_
 obtain ⟨v,rfl,⟨r,rfl,rfl⟩,bel⟩:=he
 have t0:=Below.trod laidOut (by kernel_rfl) (of_decide_eq_true (by kernel_rfl)) j0 bel (lt j0)
 have t1:=Below.trod laidOut (by kernel_rfl) (of_decide_eq_true (by kernel_rfl)) j1 bel (lt j1)
 have ta:=trodAll_cons_mk t0 (trodAll_cons_mk t1 trodAll_mk0)
 exact ⟨_,rfl,_,_,_,[],_,[],hW',trodAll_mk1 (shut_bool Tryz.underlying4 _),ta,rfl,bel.frame _,fun h=>by cases h⟩
theorem over:Rows.matSolvesRow.holds Tryz.pinned (OpenSpec.ofChange Rows.matSolvesSpec):=
 OpenClaim.holds_of_wide 3 Tryz.f3 rfl rfl rfl rfl rfl rfl rfl ⟨rfl,rfl,rfl,rfl,rfl⟩ rfl rfl rfl rfl rfl (by kernel_rfl) Tryz.func3 (by kernel_rfl)
  (of_decide_eq_true (by kernel_rfl)) (by unfold Func.isWrapper;first | (rw [if_pos (by decide +kernel)];kernel_rfl) | (rw [if_neg (by decide +kernel)];exact ⟨rfl,rfl⟩))
  (fun os started H enc _=>lifted os started H enc)
end Go.Proofs.YtlmpoindlejefaaGreat.matSolves
namespace Go.Proofs.YtlmpoindlejefaaGreat
theorem matSolves_holds:Rows.MatSolvesSaid:=matSolves.over
#print axioms matSolves_holds
end Go.Proofs.YtlmpoindlejefaaGreat
