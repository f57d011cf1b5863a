/-
  Proved: for every input, ClockRepeats (isoclinelaw22) returns true, and each argument reads afterwards as it read before. No condition.
-/
import Derived.Test.YtgbmmbfminafnaaRows
import Derived.Test.YtgbmmbfminafnaaKD5
import Derived.Test.YtgbmmbfminafnaaKC15
import Derived.Test.YtgbmmbfminafnaaKL3
set_option linter.unusedVariables false
namespace Go.Proofs.Ytgbmmbfminafnaa.clockRepeats
open Go Go.ChangeShapes Go.WideShapes Go.ChangeAt Go.RowKit E
theorem own:ownKnob Try.prog.godebug=none:=by kernel_rfl
theorem laidOut:laidOutB Try.prog=true:=by kernel_rfl
theorem k1:Try.prog.cellsOf 3=1:=by kernel_rfl
theorem k2:Try.prog.cellsOf 35=5:=by kernel_rfl
theorem k4:Try.prog.bytesOf 3=8:=by kernel_rfl
theorem k3:Try.prog.bytesOf 35=40:=by kernel_rfl
set_option maxRecDepth 100000 in
set_option maxHeartbeats 4000000 in
theorem lifted (os:Os) (started:os.Started) (H:Type) (enc:TypeId×Value->H) :
  ReturnsInHanded {} Try.checked os 3 .any (Rows.clockRepeatsSpec.pre6 enc Try.prog Try.f3 Rows.clockRepeatsRow.domain false) (Rows.clockRepeatsSpec.post enc Try.prog Try.f3 false true false false):=by
 refine returnsInHanded_of_change_sized (C:=Try.checked) own started (by kernel_rfl) Try.func3
  (ChangeSpec.witness6 (enc:=enc) (C:=Try.checked) false ⟨#[],#[.int .i64 0,.slice none 0 0,.slice none 0 0],[]⟩ 8 (by kernel_rfl) (by kernel_rfl) (by kernel_rfl) (by kernel_rfl)) ?_
 intro W base args ds gs before hval0 hW hcnd hsz0 _
 have hsz:(DataW.weightsEach Try.prog (Try.f3.params.toList ++ Rows.clockRepeatsSpec.plain.varTypes Try.prog) (ds ++ gs)).all (· <=reachBytes)=true:=hsz0
 have hval:∀ (j:Nat) t v,Try.f3.params[j]? =some t->args[j]? =some v->Value.okWide Try.prog W .any base t v:=hval0
 have hW':=hW
 obtain ⟨p,q,hA0,hV,rfl,hfz,hnd⟩:=hW
 have hA:DataW.TrodAll enc Try.prog W 0 (fun _=>true) true Try.f3.params.toList args.toList ds p:=hA0
 rw [Try.params3] at hA hval hsz
 obtain ⟨v0,vs0,d0,ds0,p0,q0,hargs,rfl,rfl,h0,r0⟩:=trodAll_cons hA
 obtain ⟨v1,vs1,d1,ds1,p1,q1,rfl,rfl,rfl,h1,r1⟩:=trodAll_cons r0
 obtain ⟨v2,vs2,d2,ds2,p2,q2,rfl,rfl,rfl,h2,r2⟩:=trodAll_cons r1
 obtain ⟨rfl,rfl,rfl⟩:=trodAll_nil r2
 obtain rfl:args= #[v0,v1,v2]:=by cases args;simp_all
 obtain ⟨rfl,rfl⟩:=trodVars_none hV
 obtain ⟨i0,rfl⟩:=okWide_int Try.underlying3 (hval 0 3 v0 rfl rfl)
 obtain ⟨s1,m1,t1,rfl⟩:=okWide_slice Try.underlying22 (hval 1 22 v1 rfl rfl)
 obtain ⟨s2,m2,t2,rfl⟩:=okWide_slice Try.underlying23 (hval 2 23 v2 rfl rfl)
 have j0:=h0
 have j1:=h1
 have j2:=h2
 have lt:∀ {t v d p},DataW.Trod enc Try.prog W 0 (fun _=>true) true t v d p->∀ x ∈ p,x.block<W.heap.size:=fun ⟨m,hm⟩=>DataW.trod_lt m _ _ _ hm
 obtain ⟨n0,h0⟩:=h0
 obtain ⟨f0,e0,_,g0⟩:=DataW.trod_int Try.underlying3 (show DataW.trod enc Try.prog W 0 (fun _=>true) true n0 3 [.int .i64 i0] =_ from h0)
 have e3:i0=f0:=by simpa using e0
 have hi0:InK .i64 i0:=by rw [e3];exact lit_i64 g0
 obtain ⟨x1,rfl,hc1,hb1,hR1⟩:=open_flows (wts2 (t:=22) (j:=1) hsz rfl rfl) Try.underlying22 Try.underlying35 k2 rfl rfl rfl rfl rfl k1 k1 k1 k1 k1 Try.underlying3 Try.underlying3 Try.underlying3 Try.underlying3 Try.underlying3 k3 (by decide) h1
 obtain ⟨x2,rfl,hc2,hb2,hR2⟩:=open_ints (wts2 (t:=23) (j:=2) hsz rfl rfl) Try.underlying23 k1 Try.underlying3 k4 (by decide) h2
 have hb:Rn1 (fun b=>W.heap.size<=b) (Kd.int .i64) (fun _=>False) W s2 x2:=Rn1.re (Rd.rn1 hR2) (fun b hb hw=>absurd hb (Nat.not_lt.2 hw))
 clear hA0 hval0 hsz0 hsz
 refine (law22_ClockRepeats_calls i0 x1 s1 t1 x2 s2 t2 (fun _=>False) W (fun _ h=>h.elim) hi0 hc1 hb1 hR1 hc2 hb2 hb (fun b=>b=true) (law22_ClockRepeats_run hb2)).mono fun e W' he=>?_
 obtain ⟨v,rfl,⟨r,rfl,rfl⟩,bel⟩:=he
 have t0:=Below.trod laidOut (by kernel_rfl) (of_decide_eq_true (by kernel_rfl)) j0 bel (lt j0)
 have t1:=Below.trod laidOut (by kernel_rfl) (of_decide_eq_true (by kernel_rfl)) j1 bel (lt j1)
 have t2:=Below.trod laidOut (by kernel_rfl) (of_decide_eq_true (by kernel_rfl)) j2 bel (lt j2)
 have ta:=trodAll_cons_mk t0 (trodAll_cons_mk t1 (trodAll_cons_mk t2 trodAll_mk0))
 exact ⟨_,rfl,_,_,_,[],_,[],hW',trodAll_mk1 (shut_bool Try.underlying4 _),ta,rfl,bel.frame _,fun h=>by cases h⟩
theorem over:Rows.clockRepeatsRow.holds Try.pinned (OpenSpec.ofChange Rows.clockRepeatsSpec):=
 OpenClaim.holds_of_wide 3 Try.f3 rfl rfl rfl rfl rfl rfl rfl ⟨rfl,rfl,rfl,rfl,rfl⟩ rfl rfl rfl rfl rfl (by kernel_rfl) Try.func3 (by kernel_rfl)
  (of_decide_eq_true (by kernel_rfl)) (by unfold Func.isWrapper;first | (rw [if_pos (by decide +kernel)];kernel_rfl) | (rw [if_neg (by decide +kernel)];exact ⟨rfl,rfl⟩))
  (fun os started H enc _=>lifted os started H enc)
end Go.Proofs.Ytgbmmbfminafnaa.clockRepeats
namespace Go.Proofs.Ytgbmmbfminafnaa
theorem clockRepeats_holds:Rows.ClockRepeatsSaid:=clockRepeats.over
#print axioms clockRepeats_holds
end Go.Proofs.Ytgbmmbfminafnaa
