/-
  Proved: for every input, FitBest (isoclinelaw27) returns true, and each argument reads afterwards as it read before. No condition.
-/
import Derived.Test.YtlmpoindlejefaaRows
import Derived.Test.YtlmpoindlejefaaBD5
import Derived.Test.YtlmpoindlejefaaBM67
import Derived.Test.YtlmpoindlejefaaBL0
set_option linter.unusedVariables false
namespace Go.Proofs.Ytlmpoindlejefaa.fitBest
open Go Go.ChangeShapes Go.WideShapes Go.ChangeAt Go.RowKit E
theorem own:ownKnob Try.prog.godebug=none:=by kernel_rfl
theorem laidOut:laidOutB Try.prog=true:=by kernel_rfl
set_option maxRecDepth 100000 in
theorem lifted (os:Os) (started:os.Started) (H:Type) (enc:TypeId×Value->H) :
  ReturnsInHanded {} Try.checked os 7 .any (Rows.fitBestSpec.pre6 enc Try.prog Try.f7 Rows.fitBestRow.domain false) (Rows.fitBestSpec.post enc Try.prog Try.f7 false true false false):=by
 refine returnsInHanded_of_change_sized (C:=Try.checked) own started (by kernel_rfl) Try.func7
  (ChangeSpec.witness6 (enc:=enc) (C:=Try.checked) false ⟨#[],#[.agg #[.int .i64 0,.int .i64 0,.slice none 0 0],.slice none 0 0,.agg #[.slice none 0 0,.slice none 0 0],.slice none 0 0],[]⟩ 8 (by kernel_rfl) (by kernel_rfl) (by kernel_rfl) (by kernel_rfl)) ?_
 intro W base args ds gs before hval0 hW hcnd hsz0 _
 have hsz:(DataW.weightsEach Try.prog (Try.f7.params.toList ++ Rows.fitBestSpec.plain.varTypes Try.prog) (ds ++ gs)).all (· <=reachBytes)=true:=hsz0
 have hval:∀ (j:Nat) t v,Try.f7.params[j]? =some t->args[j]? =some v->Value.okWide Try.prog W .any base t v:=hval0
 have hW':=hW
 obtain ⟨p,q,hA0,hV,rfl,hfz,hnd⟩:=hW
 have hA:DataW.TrodAll enc Try.prog W 0 (fun _=>true) true Try.f7.params.toList args.toList ds p:=hA0
 rw [Try.params7] at hA hval hsz
 obtain ⟨v0,vs0,d0,ds0,p0,q0,hargs,rfl,rfl,h0,r0⟩:=trodAll_cons hA
 obtain ⟨v1,vs1,d1,ds1,p1,q1,rfl,rfl,rfl,h1,r1⟩:=trodAll_cons r0
 obtain ⟨v2,vs2,d2,ds2,p2,q2,rfl,rfl,rfl,h2,r2⟩:=trodAll_cons r1
 obtain ⟨v3,vs3,d3,ds3,p3,q3,rfl,rfl,rfl,h3,r3⟩:=trodAll_cons r2
 obtain ⟨rfl,rfl,rfl⟩:=trodAll_nil r3
 obtain rfl:args= #[v0,v1,v2,v3]:=by cases args;simp_all
 obtain ⟨rfl,rfl⟩:=trodVars_none hV
 obtain ⟨cs0,rfl,hs0⟩:=okWide_struct Try.underlying31 (hval 0 31 v0 rfl rfl)
 obtain ⟨u0,u1,u2,rfl⟩:=three (hs0.trans (by kernel_rfl))
 obtain ⟨a1,len1,cap1,rfl⟩:=okWide_slice Try.underlying22 (hval 1 22 v1 rfl rfl)
 obtain ⟨cs2,rfl,hs2⟩:=okWide_struct Try.underlying50 (hval 2 50 v2 rfl rfl)
 obtain ⟨w0,w1,rfl⟩:=two (hs2.trans (by kernel_rfl))
 obtain ⟨a3,len3,cap3,rfl⟩:=okWide_slice Try.underlying22 (hval 3 22 v3 rfl rfl)
 have k0:=h0
 have k1:=h1
 have k2:=h2
 have k3:=h3
 have lt0:∀ x ∈ p0,x.block<W.heap.size:=by obtain ⟨m,hm⟩:=k0;exact DataW.trod_lt m _ _ _ hm
 have lt1:∀ x ∈ p1,x.block<W.heap.size:=by obtain ⟨m,hm⟩:=k1;exact DataW.trod_lt m _ _ _ hm
 have lt2:∀ x ∈ p2,x.block<W.heap.size:=by obtain ⟨m,hm⟩:=k2;exact DataW.trod_lt m _ _ _ hm
 have lt3:∀ x ∈ p3,x.block<W.heap.size:=by obtain ⟨m,hm⟩:=k3;exact DataW.trod_lt m _ _ _ hm
 obtain ⟨x0,a0,cap0,rfl,rfl,rfl,hI0,hI1,hc0,hb0,hR0⟩:=open_mat hsz (j:=0) (t:=31) rfl rfl Try.underlying31 rfl rfl rfl (by kernel_rfl) (by kernel_rfl) (by kernel_rfl) Try.underlying3 Try.underlying3 Try.underlying22 Try.underlying24 (by kernel_rfl) rfl rfl (by kernel_rfl) (by kernel_rfl) Try.underlying3 Try.underlying3 (B:=16) (by kernel_rfl) (by decide) h0
 obtain ⟨x1,rfl,hc1,hb1,hR1⟩:=zG0 hsz (j:=1) (t:=22) rfl rfl Try.underlying22 Try.underlying24 (by kernel_rfl) rfl rfl (by kernel_rfl) (by kernel_rfl) Try.underlying3 Try.underlying3 (B:=16) (by kernel_rfl) (by decide) h1
 obtain ⟨x2,a2,b2,cap2,dap2,rfl,rfl,⟨hc2,hb2,hR2⟩,⟨hc4,hb4,hR4⟩⟩:=zHx hsz (j:=2) (t:=50) rfl rfl Try.underlying50 rfl rfl (by kernel_rfl) (by kernel_rfl) Try.underlying22 Try.underlying22 Try.underlying24 (by kernel_rfl) rfl rfl (by kernel_rfl) (by kernel_rfl) Try.underlying3 Try.underlying3 (B:=16) (by kernel_rfl) (by decide) h2
 obtain ⟨x3,rfl,hc3,hb3,hR3⟩:=zG0 hsz (j:=3) (t:=22) rfl rfl Try.underlying22 Try.underlying24 (by kernel_rfl) rfl rfl (by kernel_rfl) (by kernel_rfl) Try.underlying3 Try.underlying3 (B:=16) (by kernel_rfl) (by decide) h3
 clear hA0 hval0 hsz0 hsz
 have hb:∀ (x:List zAC) (A:Option Addr),Rd zAA (fun _=>False) W A x->Rn1 (fun b=>W.heap.size<=b) zAA (fun _=>False) W A x:=fun x A h=>Rn1.re (Rd.rn1 h) (fun b hb hw=>absurd hb (Nat.not_lt.2 hw))
 refine (zFC x0 a0 cap0 x1 a1 cap1 x2 a2 cap2 b2 dap2 x3 a3 cap3 (fun _=>False) W (fun _ h=>h.elim) hI0 hI1 hc0 hb0 (hb _ _ hR0) hc1 hb1 (hb _ _ hR1) hc2 hb2 (hb _ _ hR2) hc4 hb4 (hb _ _ hR4) hc3 hb3 (hb _ _ hR3) (fun b=>b=true) (zFn hb0 hb1 hb2 hb4 hb3)).mono fun e W' he=>?_
 obtain ⟨v,rfl,⟨r,rfl,rfl⟩,bel⟩:=he
 exact ⟨_,rfl,_,_,_,[],_,[],hW',trodAll_mk1 (shut_bool Try.underlying4 _),(trodAll_cons_mk (Below.trod laidOut (by kernel_rfl) (of_decide_eq_true (by kernel_rfl)) k0 bel lt0) (trodAll_cons_mk (Below.trod laidOut (by kernel_rfl) (of_decide_eq_true (by kernel_rfl)) k1 bel lt1) (trodAll_cons_mk (Below.trod laidOut (by kernel_rfl) (of_decide_eq_true (by kernel_rfl)) k2 bel lt2) (trodAll_cons_mk (Below.trod laidOut (by kernel_rfl) (of_decide_eq_true (by kernel_rfl)) k3 bel lt3) trodAll_mk0)))),rfl,bel.frame _,fun h=>by cases h⟩
theorem over:Rows.fitBestRow.holds Try.pinned (OpenSpec.ofChange Rows.fitBestSpec):=
 OpenClaim.holds_of_wide 7 Try.f7 rfl rfl rfl rfl rfl rfl rfl ⟨rfl,rfl,rfl,rfl,rfl⟩ rfl rfl rfl rfl rfl (by kernel_rfl) Try.func7 (by kernel_rfl)
  (of_decide_eq_true (by kernel_rfl)) (by unfold Func.isWrapper;first | (rw [if_pos (by decide +kernel)];kernel_rfl) | (rw [if_neg (by decide +kernel)];exact ⟨rfl,rfl⟩))
  (fun os started H enc _=>lifted os started H enc)
end Go.Proofs.Ytlmpoindlejefaa.fitBest
namespace Go.Proofs.Ytlmpoindlejefaa
theorem fitBest_holds:Rows.FitBestSaid:=fitBest.over
#print axioms fitBest_holds
end Go.Proofs.Ytlmpoindlejefaa
