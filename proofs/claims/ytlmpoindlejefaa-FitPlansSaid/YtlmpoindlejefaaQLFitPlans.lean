/-
  Proved: for every input, FitPlans (isoclinelaw27) returns true, and each argument reads afterwards as it read before. No condition.
-/
import Derived.Test.YtlmpoindlejefaaRows
import Derived.Test.YtlmpoindlejefaaQD4
import Derived.Test.YtlmpoindlejefaaQM54
import Derived.Test.YtlmpoindlejefaaQL1
set_option linter.unusedVariables false
namespace Go.Proofs.Ytlmpoindlejefaa.fitPlans
open Go Go.ChangeShapes Go.WideShapes Go.ChangeAt Go.RowKit E
theorem duo {cs:Array Value} (h:cs.size=2):∃ u0 u1,cs= #[u0,u1]:=by
 obtain ⟨l⟩:=cs
 match l,h with
 | [a,b],_=>exact ⟨a,b,rfl⟩
theorem own:ownKnob Try.prog.godebug=none:=by kernel_rfl
theorem laidOut:laidOutB Try.prog=true:=by kernel_rfl
set_option maxRecDepth 100000 in
theorem lifted (os:Os) (started:os.Started) (H:Type) (enc:TypeId×Value->H) :
  ReturnsInHanded {} Try.checked os 5 .any (Rows.fitPlansSpec.pre6 enc Try.prog Try.f5 Rows.fitPlansRow.domain false) (Rows.fitPlansSpec.post enc Try.prog Try.f5 false true false false):=by
 refine returnsInHanded_of_change_sized (C:=Try.checked) own started (by kernel_rfl) Try.func5
  (ChangeSpec.witness6 (enc:=enc) (C:=Try.checked) false ⟨#[],#[.agg #[.int .i64 0,.int .i64 0,.slice none 0 0],.agg #[.int .i64 0,.int .i64 0,.slice none 0 0],.slice none 0 0,.slice none 0 0,.int .i64 0,.agg #[.int .i64 0,.int .i64 0]],[]⟩ 8 (by kernel_rfl) (by kernel_rfl) (by kernel_rfl) (by kernel_rfl)) ?_
 intro W base args ds gs before hval0 hW hcnd hsz0 _
 have hsz:(DataW.weightsEach Try.prog (Try.f5.params.toList ++ Rows.fitPlansSpec.plain.varTypes Try.prog) (ds ++ gs)).all (· <=reachBytes)=true:=hsz0
 have hval:∀ (j:Nat) t v,Try.f5.params[j]? =some t->args[j]? =some v->Value.okWide Try.prog W .any base t v:=hval0
 have hW':=hW
 obtain ⟨p,q,hA0,hV,rfl,hfz,hnd⟩:=hW
 have hA:DataW.TrodAll enc Try.prog W 0 (fun _=>true) true Try.f5.params.toList args.toList ds p:=hA0
 rw [Try.params5] at hA hval hsz
 obtain ⟨v0,vs0,d0,ds0,p0,q0,hargs,rfl,rfl,h0,r0⟩:=trodAll_cons hA
 obtain ⟨v1,vs1,d1,ds1,p1,q1,rfl,rfl,rfl,h1,r1⟩:=trodAll_cons r0
 obtain ⟨v2,vs2,d2,ds2,p2,q2,rfl,rfl,rfl,h2,r2⟩:=trodAll_cons r1
 obtain ⟨v3,vs3,d3,ds3,p3,q3,rfl,rfl,rfl,h3,r3⟩:=trodAll_cons r2
 obtain ⟨v4,vs4,d4,ds4,p4,q4,rfl,rfl,rfl,h4,r4⟩:=trodAll_cons r3
 obtain ⟨v5,vs5,d5,ds5,p5,q5,rfl,rfl,rfl,h5,r5⟩:=trodAll_cons r4
 obtain ⟨rfl,rfl,rfl⟩:=trodAll_nil r5
 obtain rfl:args= #[v0,v1,v2,v3,v4,v5]:=by cases args;simp_all
 obtain ⟨rfl,rfl⟩:=trodVars_none hV
 obtain ⟨cs0,rfl,hs0⟩:=okWide_struct Try.underlying31 (hval 0 31 v0 rfl rfl)
 obtain ⟨u0,u1,u2,rfl⟩:=three (hs0.trans (by kernel_rfl))
 obtain ⟨cs1,rfl,hs1⟩:=okWide_struct Try.underlying31 (hval 1 31 v1 rfl rfl)
 obtain ⟨w0,w1,w2,rfl⟩:=three (hs1.trans (by kernel_rfl))
 obtain ⟨a2,len2,cap2,rfl⟩:=okWide_slice Try.underlying22 (hval 2 22 v2 rfl rfl)
 obtain ⟨a3,len3,cap3,rfl⟩:=okWide_slice Try.underlying22 (hval 3 22 v3 rfl rfl)
 obtain ⟨i4,rfl⟩:=okWide_int Try.underlying3 (hval 4 3 v4 rfl rfl)
 obtain ⟨cs5,rfl,hs5⟩:=okWide_struct Try.underlying24 (hval 5 24 v5 rfl rfl)
 obtain ⟨b0,b1,rfl⟩:=duo (hs5.trans (by kernel_rfl))
 have k0:=h0
 have k1:=h1
 have k2:=h2
 have k3:=h3
 have k4:=h4
 have k5:=h5
 have lt:∀ {t v d p},DataW.Trod enc Try.prog W 0 (fun _=>true) true t v d p->∀ x ∈ p,x.block<W.heap.size:=fun ⟨m,hm⟩=>DataW.trod_lt m _ _ _ hm
 obtain ⟨x0,a0,cap0,rfl,rfl,rfl,hI0,hI1,hc0,hb0,hR0⟩:=zIE hsz (j:=0) (t:=31) rfl rfl Try.underlying31 rfl rfl rfl (by kernel_rfl) (by kernel_rfl) (by kernel_rfl) Try.underlying3 Try.underlying3 Try.underlying22 Try.underlying24 (by kernel_rfl) rfl rfl (by kernel_rfl) (by kernel_rfl) Try.underlying3 Try.underlying3 (B:=16) (by kernel_rfl) (by decide) h0
 obtain ⟨x1,a1,cap1,rfl,rfl,rfl,hI2,hI3,hc1,hb1,hR1⟩:=zIE hsz (j:=1) (t:=31) rfl rfl Try.underlying31 rfl rfl rfl (by kernel_rfl) (by kernel_rfl) (by kernel_rfl) Try.underlying3 Try.underlying3 Try.underlying22 Try.underlying24 (by kernel_rfl) rfl rfl (by kernel_rfl) (by kernel_rfl) Try.underlying3 Try.underlying3 (B:=16) (by kernel_rfl) (by decide) h1
 obtain ⟨x2,rfl,hc2,hb2,hR2⟩:=zGy hsz (j:=2) (t:=22) rfl rfl Try.underlying22 Try.underlying24 (by kernel_rfl) rfl rfl (by kernel_rfl) (by kernel_rfl) Try.underlying3 Try.underlying3 (B:=16) (by kernel_rfl) (by decide) h2
 obtain ⟨x3,rfl,hc3,hb3,hR3⟩:=zGy hsz (j:=3) (t:=22) rfl rfl Try.underlying22 Try.underlying24 (by kernel_rfl) rfl rfl (by kernel_rfl) (by kernel_rfl) Try.underlying3 Try.underlying3 (B:=16) (by kernel_rfl) (by decide) h3
 obtain ⟨n4,h4⟩:=h4
 obtain ⟨f4,e4,_,g4⟩:=DataW.trod_int Try.underlying3 (show DataW.trod enc Try.prog W 0 (fun _=>true) true n4 3 [.int .i64 i4] =_ from h4)
 have e5:i4=f4:=by simpa using e4
 have hi4:InK .i64 i4:=by rw [e5];exact zGF g4
 obtain ⟨n5,h5⟩:=h5
 obtain ⟨x5,rfl,rfl,hI4,hI5⟩:=zIU Try.underlying24 rfl rfl (by kernel_rfl) (by kernel_rfl) Try.underlying3 Try.underlying3 h5
 clear hA0 hval0 hsz0 hsz
 have hb:∀ (x:List zn) (A:Option Addr),Rd zK (fun _=>False) W A x->Rn1 (fun b=>W.heap.size<=b) zK (fun _=>False) W A x:=fun x A h=>Rn1.re (Rd.rn1 h) (fun b hb hw=>absurd hb (Nat.not_lt.2 hw))
 refine (zEr x0 _ _ _ x1 _ _ _ x2 a2 cap2 x3 a3 cap3 i4 x5 _ _ (fun _=>False) W (fun _ h=>h.elim) ⟨a0,cap0,rfl,hI0,hI1,hc0,hb0,hR0⟩ ⟨a1,cap1,rfl,hI2,hI3,hc1,hb1,hR1⟩ hc2 hb2 (hb _ _ hR2) hc3 hb3 (hb _ _ hR3) hi4 ⟨rfl,hI4,hI5⟩ (fun b=>b=true) (zFO hb0 hb1 hb2 hb3 hi4)).mono fun e W' he=>?_
 obtain ⟨v,rfl,⟨r,rfl,rfl⟩,bel⟩:=he
 have t0:=Below.trod laidOut (by kernel_rfl) (of_decide_eq_true (by kernel_rfl)) k0 bel (lt k0)
 have t1:=Below.trod laidOut (by kernel_rfl) (of_decide_eq_true (by kernel_rfl)) k1 bel (lt k1)
 have t2:=Below.trod laidOut (by kernel_rfl) (of_decide_eq_true (by kernel_rfl)) k2 bel (lt k2)
 have t3:=Below.trod laidOut (by kernel_rfl) (of_decide_eq_true (by kernel_rfl)) k3 bel (lt k3)
 have t4:=Below.trod laidOut (by kernel_rfl) (of_decide_eq_true (by kernel_rfl)) k4 bel (lt k4)
 have t5:=Below.trod laidOut (by kernel_rfl) (of_decide_eq_true (by kernel_rfl)) k5 bel (lt k5)
 have ta:=trodAll_cons_mk t0 (trodAll_cons_mk t1 (trodAll_cons_mk t2 (trodAll_cons_mk t3 (trodAll_cons_mk t4 (trodAll_cons_mk t5 trodAll_mk0)))))
 exact ⟨_,rfl,_,_,_,[],_,[],hW',trodAll_mk1 (shut_bool Try.underlying4 _),ta,rfl,bel.frame _,fun h=>by cases h⟩
theorem over:Rows.fitPlansRow.holds Try.pinned (OpenSpec.ofChange Rows.fitPlansSpec):=
 OpenClaim.holds_of_wide 5 Try.f5 rfl rfl rfl rfl rfl rfl rfl ⟨rfl,rfl,rfl,rfl,rfl⟩ rfl rfl rfl rfl rfl (by kernel_rfl) Try.func5 (by kernel_rfl)
  (of_decide_eq_true (by kernel_rfl)) (by unfold Func.isWrapper;first | (rw [if_pos (by decide +kernel)];kernel_rfl) | (rw [if_neg (by decide +kernel)];exact ⟨rfl,rfl⟩))
  (fun os started H enc _=>lifted os started H enc)
end Go.Proofs.Ytlmpoindlejefaa.fitPlans
namespace Go.Proofs.Ytlmpoindlejefaa
theorem fitPlans_holds:Rows.FitPlansSaid:=fitPlans.over
#print axioms fitPlans_holds
end Go.Proofs.Ytlmpoindlejefaa
