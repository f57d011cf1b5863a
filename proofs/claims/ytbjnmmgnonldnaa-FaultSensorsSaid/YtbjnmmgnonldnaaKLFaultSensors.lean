/-
  Proved: for every input, FaultSensors (isoclinelaw28) returns true, and each argument reads afterwards as it read before. No condition.
-/
import Derived.Test.YtbjnmmgnonldnaaRows
import Derived.Test.YtbjnmmgnonldnaaKD5
import Derived.Test.YtbjnmmgnonldnaaKF21
import Derived.Test.YtbjnmmgnonldnaaKL4
set_option linter.unusedVariables false
namespace Go.Proofs.Ytbjnmmgnonldnaa.faultSensors
open Go Go.ChangeShapes Go.WideShapes Go.ChangeAt Go.RowKit E
theorem own:ownKnob Try.prog.godebug=none:=by kernel_rfl
theorem laidOut:laidOutB Try.prog=true:=by kernel_rfl
theorem k1:Try.prog.cellsOf 3=1:=by kernel_rfl
theorem k27:Try.prog.cellsOf 27=1:=by kernel_rfl
theorem k22:Try.prog.cellsOf 22=1:=by kernel_rfl
theorem k24:Try.prog.cellsOf 24=3:=by kernel_rfl
theorem k26:Try.prog.cellsOf 26=4:=by kernel_rfl
theorem b3:Try.prog.bytesOf 3=8:=by kernel_rfl
theorem b27:Try.prog.bytesOf 27=24:=by kernel_rfl
section
variable {H:Type} {enc:TypeId×Value->H} {W:World}
theorem o3:Opn enc Try.prog W 3 (Kd.int .i64):=opn_int Try.underlying3
theorem o27:Opn enc Try.prog W 27 (Kd.slice (Kd.int .i64)):=opn_slice Try.underlying27 k1 (Nat.le_refl 1) b3 (by decide) o3
theorem o22:Opn enc Try.prog W 22 (Kd.slice (Kd.slice (Kd.int .i64))):=opn_slice Try.underlying22 k27 (Nat.le_refl 1) b27 (by decide) o27
theorem o24:Opn enc Try.prog W 24 k_api_Incidence:=opn_inc Try.underlying24 k24 rfl rfl rfl k1 k1 k22 o3 o3 o22
theorem o26:Opn enc Try.prog W 26 k_api_Diag:=opn_diag Try.underlying26 k26 rfl rfl k24 k22 o24 o22
theorem four {cs:Array Value} (h:cs.size=4):∃ u0 u1 u2 u3,cs= #[u0,u1,u2,u3]:=by
 obtain ⟨l⟩:=cs
 have h:l.length=4:=h
 match l,h with
 | [u0,u1,u2,u3],_=>exact ⟨u0,u1,u2,u3,rfl⟩
end
set_option maxRecDepth 100000 in
set_option maxHeartbeats 4000000 in
theorem lifted (os:Os) (started:os.Started) (H:Type) (enc:TypeId×Value->H) :
  ReturnsInHanded {} Try.checked os 7 .any (Rows.faultSensorsSpec.pre6 enc Try.prog Try.f7 Rows.faultSensorsRow.domain false) (Rows.faultSensorsSpec.post enc Try.prog Try.f7 false true false false):=by
 refine returnsInHanded_of_change_sized (C:=Try.checked) own started (by kernel_rfl) Try.func7
  (ChangeSpec.witness6 (enc:=enc) (C:=Try.checked) false ⟨#[],#[.agg #[.int .i64 0,.int .i64 0,.slice none 0 0,.slice none 0 0],.slice none 0 0,.int .i64 0],[]⟩ 8 (by kernel_rfl) (by kernel_rfl) (by kernel_rfl) (by kernel_rfl)) ?_
 intro W base args ds gs before hval0 hW hcnd hsz0 _
 have hsz:(DataW.weightsEach Try.prog (Try.f7.params.toList ++ Rows.faultSensorsSpec.plain.varTypes Try.prog) (ds ++ gs)).all (· <=reachBytes)=true:=hsz0
 have hval:∀ (j:Nat) t v,Try.f7.params[j]? =some t->args[j]? =some v->Value.okWide Try.prog W .any base t v:=hval0
 have hW':=hW
 obtain ⟨p,q,hA0,hV,rfl,hfz,hnd⟩:=hW
 have hA:DataW.TrodAll enc Try.prog W 0 (fun _=>true) true Try.f7.params.toList args.toList ds p:=hA0
 rw [Try.params7] at hA hval hsz
 obtain ⟨v0,vs0,d0,ds0,p0,q0,hargs,rfl,rfl,h0,r0⟩:=trodAll_cons hA
 obtain ⟨v1,vs1,d1,ds1,p1,q1,rfl,rfl,rfl,h1,r1⟩:=trodAll_cons r0
 obtain ⟨v2,vs2,d2,ds2,p2,q2,rfl,rfl,rfl,h2,r2⟩:=trodAll_cons r1
 obtain ⟨rfl,rfl,rfl⟩:=trodAll_nil r2
 obtain rfl:args= #[v0,v1,v2]:=by cases args;simp_all
 obtain ⟨rfl,rfl⟩:=trodVars_none hV
 obtain ⟨cs0,rfl,hs0⟩:=okWide_struct Try.underlying26 (hval 0 26 v0 rfl rfl)
 obtain ⟨u0,u1,u2,u3,rfl⟩:=four (hs0.trans (by kernel_rfl))
 obtain ⟨s1,m1,t1,rfl⟩:=okWide_slice Try.underlying27 (hval 1 27 v1 rfl rfl)
 obtain ⟨i2,rfl⟩:=okWide_int Try.underlying3 (hval 2 3 v2 rfl rfl)
 have lt:∀ {t v d p},DataW.Trod enc Try.prog W 0 (fun _=>true) true t v d p->∀ x ∈ p,x.block<W.heap.size:=fun ⟨m,hm⟩=>DataW.trod_lt m _ _ _ hm
 obtain ⟨x0,hx0⟩:=o26.arg (wtsj (t:=26) (j:=0) hsz rfl rfl) h0
 obtain ⟨x1,A1,c1,e1,l1,b1,hx1⟩:=o27.arg (wtsj (t:=27) (j:=1) hsz rfl rfl) h1
 obtain ⟨x2,e2,hx2⟩:=o3.arg (wtsj (t:=3) (j:=2) hsz rfl rfl) h2
 obtain ⟨rfl,rfl,rfl⟩:s1=A1/\m1=x1.length/\t1=c1:=by simpa [Value.cells] using e1
 obtain rfl:i2=x2:=by simpa [Value.cells] using e2
 have hx0:k_api_Diag.R (fun _=>False) W x0 [u0,u1,u2,u3]:=hx0
 clear hA0 hval0 hsz0 hsz
 refine (law28_FaultSensors_calls x0 u0 u1 u2 u3 x1 s1 t1 i2 (fun _=>False) W (fun _ h=>h.elim) hx0 l1 b1 hx1 hx2 (fun b=>b=true) sensors_run).mono fun e W' he=>?_
 obtain ⟨v,rfl,⟨r,rfl,rfl⟩,bel⟩:=he
 have t0:=Below.trod laidOut (by kernel_rfl) (of_decide_eq_true (by kernel_rfl)) h0 bel (lt h0)
 have t1:=Below.trod laidOut (by kernel_rfl) (of_decide_eq_true (by kernel_rfl)) h1 bel (lt h1)
 have t2:=Below.trod laidOut (by kernel_rfl) (of_decide_eq_true (by kernel_rfl)) h2 bel (lt h2)
 have ta:=trodAll_cons_mk t0 (trodAll_cons_mk t1 (trodAll_cons_mk t2 trodAll_mk0))
 exact ⟨_,rfl,_,_,_,[],_,[],hW',trodAll_mk1 (shut_bool Try.underlying4 _),ta,rfl,bel.frame _,fun h=>by cases h⟩
theorem over:Rows.faultSensorsRow.holds Try.pinned (OpenSpec.ofChange Rows.faultSensorsSpec):=
 OpenClaim.holds_of_wide 7 Try.f7 rfl rfl rfl rfl rfl rfl rfl ⟨rfl,rfl,rfl,rfl,rfl⟩ rfl rfl rfl rfl rfl (by kernel_rfl) Try.func7 (by kernel_rfl)
  (of_decide_eq_true (by kernel_rfl)) (by unfold Func.isWrapper;first | (rw [if_pos (by decide +kernel)];kernel_rfl) | (rw [if_neg (by decide +kernel)];exact ⟨rfl,rfl⟩))
  (fun os started H enc _=>lifted os started H enc)
end Go.Proofs.Ytbjnmmgnonldnaa.faultSensors
namespace Go.Proofs.Ytbjnmmgnonldnaa
theorem faultSensors_holds:Rows.FaultSensorsSaid:=faultSensors.over
#print axioms faultSensors_holds
end Go.Proofs.Ytbjnmmgnonldnaa
