/-
  Proved: for every input, MatArith (isoclinelaw04) returns true, and each argument reads afterwards as it read before. No condition.
-/
import Derived.Test.YtlmpoindlejefaaGreatRows
import Derived.Test.YtlmpoindlejefaaGreatAD4
import Derived.Test.YtlmpoindlejefaaGreatAM58
import Derived.Test.YtlmpoindlejefaaGreatAL1
set_option linter.unusedVariables false
namespace Go.Proofs.YtlmpoindlejefaaGreat.matArith
open Go Go.ChangeShapes Go.WideShapes Go.ChangeAt Go.RowKit E
theorem duo {cs:Array Value} (h:cs.size=2):∃ u0 u1,cs= #[u0,u1]:=by
 obtain ⟨l⟩:=cs
 match l,h with
 | [a,b],_=>exact ⟨a,b,rfl⟩
theorem own:ownKnob Tryz.prog.godebug=none:=by kernel_rfl
theorem laidOut:laidOutB Tryz.prog=true:=by kernel_rfl
theorem k1:Tryz.prog.cellsOf 3=1:=by kernel_rfl
theorem k2:Tryz.prog.cellsOf 22=1:=by kernel_rfl
theorem k3:Tryz.prog.cellsOf 39=2:=by kernel_rfl
theorem k5:Tryz.prog.bytesOf 39=16:=by kernel_rfl
set_option maxRecDepth 100000 in
set_option maxHeartbeats 4000000 in
theorem lifted (os:Os) (started:os.Started) (H:Type) (enc:TypeId×Value->H) :
  ReturnsInHanded {} Tryz.checked os 6 .any (Rows.matArithSpec.pre6 enc Tryz.prog Tryz.f6 Rows.matArithRow.domain false) (Rows.matArithSpec.post enc Tryz.prog Tryz.f6 false true false false):=by
 refine returnsInHanded_of_change_sized (C:=Tryz.checked) own started (by kernel_rfl) Tryz.func6
  (ChangeSpec.witness6 (enc:=enc) (C:=Tryz.checked) false ⟨#[],#[.agg #[.int .i64 0,.int .i64 0,.slice none 0 0],.agg #[.int .i64 0,.int .i64 0,.slice none 0 0],.agg #[.int .i64 0,.int .i64 0],.int .i64 0],[]⟩ 8 (by kernel_rfl) (by kernel_rfl) (by kernel_rfl) (by kernel_rfl)) ?_
 intro W base args ds gs before hval0 hW hcnd hsz0 _
 have hsz:(DataW.weightsEach Tryz.prog (Tryz.f6.params.toList ++ Rows.matArithSpec.plain.varTypes Tryz.prog) (ds ++ gs)).all (· <=reachBytes)=true:=hsz0
 have hval:∀ (j:Nat) t v,Tryz.f6.params[j]? =some t->args[j]? =some v->Value.okWide Tryz.prog W .any base t v:=hval0
 have hW':=hW
 obtain ⟨p,q,hA0,hV,rfl,hfz,hnd⟩:=hW
 have hA:DataW.TrodAll enc Tryz.prog W 0 (fun _=>true) true Tryz.f6.params.toList args.toList ds p:=hA0
 rw [Tryz.params6] at hA hval hsz
 obtain ⟨v0,vs0,d0,ds0,p0,q0,hargs,rfl,rfl,h0,r0⟩:=trodAll_cons hA
 obtain ⟨v1,vs1,d1,ds1,p1,q1,rfl,rfl,rfl,h1,r1⟩:=trodAll_cons r0
 obtain ⟨v2,vs2,d2,ds2,p2,q2,rfl,rfl,rfl,h2,r2⟩:=trodAll_cons r1
 obtain ⟨v3,vs3,d3,ds3,p3,q3,rfl,rfl,rfl,h3,r3⟩:=trodAll_cons r2
 obtain ⟨rfl,rfl,rfl⟩:=trodAll_nil r3
 obtain rfl:args= #[v0,v1,v2,v3]:=by cases args;simp_all
 obtain ⟨rfl,rfl⟩:=trodVars_none hV
 obtain ⟨cs0,rfl,hs0⟩:=okWide_struct Tryz.underlying24 (hval 0 24 v0 rfl rfl)
 obtain ⟨u0,u1,u2,rfl⟩:=three (hs0.trans (by kernel_rfl))
 obtain ⟨cs1,rfl,hs1⟩:=okWide_struct Tryz.underlying24 (hval 1 24 v1 rfl rfl)
 obtain ⟨w0,w1,w2,rfl⟩:=three (hs1.trans (by kernel_rfl))
 obtain ⟨cs2,rfl,hs2⟩:=okWide_struct Tryz.underlying39 (hval 2 39 v2 rfl rfl)
 obtain ⟨b0,b1,rfl⟩:=duo (hs2.trans (by kernel_rfl))
 obtain ⟨i3,rfl⟩:=okWide_int Tryz.underlying3 (hval 3 3 v3 rfl rfl)
 have j0:=h0
 have j1:=h1
 have j2:=h2
 have j3:=h3
 have lt:∀ {t v d p},DataW.Trod enc Tryz.prog W 0 (fun _=>true) true t v d p->∀ x ∈ p,x.block<W.heap.size:=fun ⟨m,hm⟩=>DataW.trod_lt m _ _ _ hm
 obtain ⟨n0,h0⟩:=h0
 obtain ⟨n1,h1⟩:=h1
 obtain ⟨n2,h2⟩:=h2
 obtain ⟨n3,h3⟩:=h3
 obtain ⟨x0,A0,c0,rfl,rfl,rfl,hI0,hI1,hc0,hb0,hR0⟩:=open_mat_n (wts (t:=24) (j:=0) hsz rfl rfl) Tryz.underlying24 rfl rfl rfl k1 k1 k2 Tryz.underlying3 Tryz.underlying3 Tryz.underlying22 Tryz.underlying39 k3 rfl rfl k1 k1 Tryz.underlying3 Tryz.underlying3 k5 (by decide) h0
 obtain ⟨x1,A1,c1,rfl,rfl,rfl,hI2,hI3,hc1,hb1,hR1⟩:=open_mat_n (wts (t:=24) (j:=1) hsz rfl rfl) Tryz.underlying24 rfl rfl rfl k1 k1 k2 Tryz.underlying3 Tryz.underlying3 Tryz.underlying22 Tryz.underlying39 k3 rfl rfl k1 k1 Tryz.underlying3 Tryz.underlying3 k5 (by decide) h1
 obtain ⟨x2,rfl,rfl,hI4,hI5⟩:=open_rat_n Tryz.underlying39 rfl rfl k1 k1 Tryz.underlying3 Tryz.underlying3 h2
 obtain ⟨f3,e3,_,g3⟩:=DataW.trod_int Tryz.underlying3 (show DataW.trod enc Tryz.prog W 0 (fun _=>true) true n3 3 [.int .i64 i3] =_ from h3)
 have e4:i3=f3:=by simpa using e3
 have hi3:InK .i64 i3:=by rw [e4];exact wf_i64 g3
 clear hA0 hval0 hsz0 hsz
 have hb:∀ (x:List api_Rat) (A:Option Addr),Rd k_api_Rat (fun _=>False) W A x->Rn1 (fun b=>W.heap.size<=b) k_api_Rat (fun _=>False) W A x:=fun x A h=>Rn1.re (Rd.rn1 h) (fun b hb hw=>absurd hb (Nat.not_lt.2 hw))
 refine (law04_MatArith_calls x0 _ _ _ x1 A1 c1 x2 _ _ i3 (fun _=>False) W (fun _ h=>h.elim) ⟨A0,c0,rfl,hI0,hI1,hc0,hb0,hR0⟩ hI2 hI3 hc1 hb1 (hb _ _ hR1) ⟨rfl,hI4,hI5⟩ hi3 (fun b=>b=true) (law04_MatArith_run hb0 hb1)).mono fun e W' he=>?_
 obtain ⟨v,rfl,⟨r,rfl,rfl⟩,bel⟩:=he
 have t0:=Below.trod laidOut (by kernel_rfl) (of_decide_eq_true (by kernel_rfl)) j0 bel (lt j0)
 have t1:=Below.trod laidOut (by kernel_rfl) (of_decide_eq_true (by kernel_rfl)) j1 bel (lt j1)
 have t2:=Below.trod laidOut (by kernel_rfl) (of_decide_eq_true (by kernel_rfl)) j2 bel (lt j2)
 have t3:=Below.trod laidOut (by kernel_rfl) (of_decide_eq_true (by kernel_rfl)) j3 bel (lt j3)
 have ta:=trodAll_cons_mk t0 (trodAll_cons_mk t1 (trodAll_cons_mk t2 (trodAll_cons_mk t3 trodAll_mk0)))
 exact ⟨_,rfl,_,_,_,[],_,[],hW',trodAll_mk1 (shut_bool Tryz.underlying4 _),ta,rfl,bel.frame _,fun h=>by cases h⟩
theorem over:Rows.matArithRow.holds Tryz.pinned (OpenSpec.ofChange Rows.matArithSpec):=
 OpenClaim.holds_of_wide 6 Tryz.f6 rfl rfl rfl rfl rfl rfl rfl ⟨rfl,rfl,rfl,rfl,rfl⟩ rfl rfl rfl rfl rfl (by kernel_rfl) Tryz.func6 (by kernel_rfl)
  (of_decide_eq_true (by kernel_rfl)) (by unfold Func.isWrapper;first | (rw [if_pos (by decide +kernel)];kernel_rfl) | (rw [if_neg (by decide +kernel)];exact ⟨rfl,rfl⟩))
  (fun os started H enc _=>lifted os started H enc)
end Go.Proofs.YtlmpoindlejefaaGreat.matArith
namespace Go.Proofs.YtlmpoindlejefaaGreat
theorem matArith_holds:Rows.MatArithSaid:=matArith.over
#print axioms matArith_holds
end Go.Proofs.YtlmpoindlejefaaGreat
