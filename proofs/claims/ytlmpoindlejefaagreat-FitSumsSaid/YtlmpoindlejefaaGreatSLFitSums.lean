/-
  Proved: for every input, FitSums (isoclinelaw27) returns true, and each argument reads afterwards as it read before. No condition.
-/
import Derived.Test.YtlmpoindlejefaaGreatRows
import Derived.Test.YtlmpoindlejefaaGreatSD4
import Derived.Test.YtlmpoindlejefaaGreatSM29S
import Derived.Test.YtlmpoindlejefaaGreatSL1
set_option linter.unusedVariables false
namespace Go.Proofs.YtlmpoindlejefaaGreat.fitSums
open Go Go.ChangeShapes Go.WideShapes Go.ChangeAt Go.RowKit E
theorem own:ownKnob Tryz.prog.godebug=none:=by kernel_rfl
theorem laidOut:laidOutB Tryz.prog=true:=by kernel_rfl
theorem k1:Tryz.prog.cellsOf 3=1:=by kernel_rfl
theorem k2:Tryz.prog.cellsOf 22=1:=by kernel_rfl
theorem k3:Tryz.prog.cellsOf 39=2:=by kernel_rfl
theorem k4:Tryz.prog.cellsOf 24=3:=by kernel_rfl
theorem k5:Tryz.prog.bytesOf 39=16:=by kernel_rfl
set_option maxRecDepth 100000 in
set_option maxHeartbeats 4000000 in
theorem lifted (os:Os) (started:os.Started) (H:Type) (enc:TypeId×Value->H) :
  ReturnsInHanded {} Tryz.checked os 5 .any (Rows.fitSumsSpec.pre6 enc Tryz.prog Tryz.f5 Rows.fitSumsRow.domain false) (Rows.fitSumsSpec.post enc Tryz.prog Tryz.f5 false true false false):=by
 refine returnsInHanded_of_change_sized (C:=Tryz.checked) own started (by kernel_rfl) Tryz.func5
  (ChangeSpec.witness6 (enc:=enc) (C:=Tryz.checked) false ⟨#[],#[.agg #[.int .i64 0,.int .i64 0,.slice none 0 0],.slice none 0 0,.agg #[.int .i64 0,.int .i64 0,.int .i64 0,.slice none 0 0,.slice none 0 0,.int .i64 0,.int .i64 0,.int .i64 0],.slice none 0 0,.agg #[.int .i64 0,.int .i64 0]],[]⟩ 8 (by kernel_rfl) (by kernel_rfl) (by kernel_rfl) (by kernel_rfl)) ?_
 intro W base args ds gs before hval0 hW hcnd hsz0 _
 have hsz:(DataW.weightsEach Tryz.prog (Tryz.f5.params.toList ++ Rows.fitSumsSpec.plain.varTypes Tryz.prog) (ds ++ gs)).all (· <=reachBytes)=true:=hsz0
 have hval:∀ (j:Nat) t v,Tryz.f5.params[j]? =some t->args[j]? =some v->Value.okWide Tryz.prog W .any base t v:=hval0
 have hW':=hW
 obtain ⟨p,q,hA0,hV,rfl,hfz,hnd⟩:=hW
 have hA:DataW.TrodAll enc Tryz.prog W 0 (fun _=>true) true Tryz.f5.params.toList args.toList ds p:=hA0
 rw [Tryz.params5] at hA hval hsz
 obtain ⟨v0,vs0,d0,ds0,p0,q0,hargs,rfl,rfl,h0,r0⟩:=trodAll_cons hA
 obtain ⟨v1,vs1,d1,ds1,p1,q1,rfl,rfl,rfl,h1,r1⟩:=trodAll_cons r0
 obtain ⟨v2,vs2,d2,ds2,p2,q2,rfl,rfl,rfl,h2,r2⟩:=trodAll_cons r1
 obtain ⟨v3,vs3,d3,ds3,p3,q3,rfl,rfl,rfl,h3,r3⟩:=trodAll_cons r2
 obtain ⟨v4,vs4,d4,ds4,p4,q4,rfl,rfl,rfl,h4,r4⟩:=trodAll_cons r3
 obtain ⟨rfl,rfl,rfl⟩:=trodAll_nil r4
 obtain rfl:args= #[v0,v1,v2,v3,v4]:=by cases args;simp_all
 obtain ⟨rfl,rfl⟩:=trodVars_none hV
 obtain ⟨cs0,rfl,hs0⟩:=okWide_struct Tryz.underlying24 (hval 0 24 v0 rfl rfl)
 obtain ⟨u0,u1,u2,rfl⟩:=three (hs0.trans (by kernel_rfl))
 obtain ⟨cs2,rfl,hs2⟩:=okWide_struct Tryz.underlying46 (hval 2 46 v2 rfl rfl)
 obtain ⟨a0,a1,a2,a3,a4,a5,a6,a7,rfl⟩:=eight (hs2.trans (by kernel_rfl))
 obtain ⟨cs4,rfl,hs4⟩:=okWide_struct Tryz.underlying39 (hval 4 39 v4 rfl rfl)
 obtain ⟨b0,b1,rfl⟩:=two (hs4.trans (by kernel_rfl))
 obtain ⟨s1,m1,t1,rfl⟩:=okWide_slice Tryz.underlying22 (hval 1 22 v1 rfl rfl)
 obtain ⟨s3,m3,t3,rfl⟩:=okWide_slice Tryz.underlying22 (hval 3 22 v3 rfl rfl)
 have j0:=h0
 have j1:=h1
 have j2:=h2
 have j3:=h3
 have j4:=h4
 have lt:∀ {t v d p},DataW.Trod enc Tryz.prog W 0 (fun _=>true) true t v d p->∀ x ∈ p,x.block<W.heap.size:=fun ⟨m,hm⟩=>DataW.trod_lt m _ _ _ hm
 obtain ⟨n0,h0⟩:=h0
 obtain ⟨n1,h1⟩:=h1
 obtain ⟨n2,h2⟩:=h2
 obtain ⟨n3,h3⟩:=h3
 obtain ⟨n4,h4⟩:=h4
 obtain ⟨x0,A0,c0,rfl,rfl,rfl,hI0,hI1,hc0,hb0,hR0⟩:=open_mat_n (wts (t:=24) (j:=0) hsz rfl rfl) Tryz.underlying24 rfl rfl rfl k1 k1 k2 Tryz.underlying3 Tryz.underlying3 Tryz.underlying22 Tryz.underlying39 k3 rfl rfl k1 k1 Tryz.underlying3 Tryz.underlying3 k5 (by decide) h0
 obtain ⟨x1,A1,c1,e1,hc1,hb1,hR1⟩:=open_slice_n (wts (t:=22) (j:=1) hsz rfl rfl) Tryz.underlying22 Tryz.underlying39 k3 rfl rfl k1 k1 Tryz.underlying3 Tryz.underlying3 k5 (by decide) (show DataW.trod enc Tryz.prog W 0 (fun _=>true) true n1 22 [.slice s1 m1 t1] =_ from h1)
 obtain ⟨rfl,rfl,rfl⟩:=Value.slice.inj e1
 obtain ⟨x3,A3,c3,e3,hc3,hb3,hR3⟩:=open_slice_n (wts (t:=22) (j:=3) hsz rfl rfl) Tryz.underlying22 Tryz.underlying39 k3 rfl rfl k1 k1 Tryz.underlying3 Tryz.underlying3 k5 (by decide) (show DataW.trod enc Tryz.prog W 0 (fun _=>true) true n3 22 [.slice s3 m3 t3] =_ from h3)
 obtain ⟨rfl,rfl,rfl⟩:=Value.slice.inj e3
 obtain ⟨x4,rfl,rfl,hI4,hI5⟩:=open_rat_n Tryz.underlying39 rfl rfl k1 k1 Tryz.underlying3 Tryz.underlying3 h4
 have w2:=wts (t:=46) (j:=2) hsz rfl rfl
 obtain ⟨y0,y1,y2,y3,y4,n,hy,z0,z1,z2,z3,z4⟩:=trod_struct5 Tryz.underlying46 h2
 obtain ⟨hd2,_⟩:=Prod.mk.inj hy
 have hd2:d2= .agg [y0.1,y1.1,y2.1,y3.1,y4.1]:=hd2
 rw [hd2] at w2
 rw [k1] at z0 z4
 rw [k2] at z2
 rw [k3] at z3
 rw [k4] at z1
 have z0:DataW.trod enc Tryz.prog W 0 (fun _=>true) true n 3 [a0] =some y0:=z0
 have z1:DataW.trod enc Tryz.prog W 0 (fun _=>true) true n 24 [a1,a2,a3] =some y1:=z1
 have z2:DataW.trod enc Tryz.prog W 0 (fun _=>true) true n 22 [a4] =some y2:=z2
 have z3:DataW.trod enc Tryz.prog W 0 (fun _=>true) true n 39 [a5,a6] =some y3:=z3
 have z4:DataW.trod enc Tryz.prog W 0 (fun _=>true) true n 3 [a7] =some y4:=z4
 have wM:∀ n ∈ y1.1.weights Tryz.prog 24,n<=reachBytes:=fun n hn=>w2 n (by
  simp only [DataW.weights,Tryz.underlying46,DataW.weightsEach,List.map,List.mem_append]
  exact .inr (.inl hn))
 have wV:∀ n ∈ y2.1.weights Tryz.prog 22,n<=reachBytes:=fun n hn=>w2 n (by
  simp only [DataW.weights,Tryz.underlying46,DataW.weightsEach,List.map,List.mem_append]
  exact .inr (.inr (.inl hn)))
 obtain ⟨fN,e0,_,g0⟩:=DataW.trod_int Tryz.underlying3 z0
 obtain ⟨fR,e4,_,g4⟩:=DataW.trod_int Tryz.underlying3 z4
 obtain rfl:a0= .int .i64 fN:=by simpa using e0
 obtain rfl:a7= .int .i64 fR:=by simpa using e4
 obtain ⟨xm,A5,c5,rfl,rfl,rfl,hI6,hI7,hc5,hb5,hR5⟩:=open_mat_n wM Tryz.underlying24 rfl rfl rfl k1 k1 k2 Tryz.underlying3 Tryz.underlying3 Tryz.underlying22 Tryz.underlying39 k3 rfl rfl k1 k1 Tryz.underlying3 Tryz.underlying3 k5 (by decide) z1
 obtain ⟨xv,A6,c6,rfl,hc6,hb6,hR6⟩:=open_slice_n wV Tryz.underlying22 Tryz.underlying39 k3 rfl rfl k1 k1 Tryz.underlying3 Tryz.underlying3 k5 (by decide) z2
 obtain ⟨xq,rfl,rfl,hI8,hI9⟩:=open_rat_n Tryz.underlying39 rfl rfl k1 k1 Tryz.underlying3 Tryz.underlying3 z3
 clear hA0 hval0 hsz0 hsz
 have hb:∀ (x:List api_Rat) (A:Option Addr),Rd k_api_Rat (fun _=>False) W A x->Rn1 (fun b=>W.heap.size<=b) k_api_Rat (fun _=>False) W A x:=fun x A h=>Rn1.re (Rd.rn1 h) (fun b hb hw=>absurd hb (Nat.not_lt.2 hw))
 refine (law27_FitSums_calls x0 A0 c0 x1 _ _ ⟨fN,xm,xv,xq,fR⟩ A5 c5 A6 c6 _ _ x3 _ _ x4 _ _ (fun _=>False) W (fun _ h=>h.elim) hI0 hI1 hc0 hb0 (hb _ _ hR0) hc1 hb1 (hb _ _ hR1) (wf_i64 g0) hI6 hI7 hc5 hb5 (hb _ _ hR5) hc6 hb6 (hb _ _ hR6) ⟨rfl,hI8,hI9⟩ (wf_i64 g4) hc3 hb3 (hb _ _ hR3) ⟨rfl,hI4,hI5⟩ (fun b=>b=true) (law27_FitSums_run hb0 hb1 hb5 hb6 hb3)).mono fun e W' he=>?_
 obtain ⟨v,rfl,⟨r,rfl,rfl⟩,bel⟩:=he
 have t0:=Below.trod laidOut (by kernel_rfl) (of_decide_eq_true (by kernel_rfl)) j0 bel (lt j0)
 have t1:=Below.trod laidOut (by kernel_rfl) (of_decide_eq_true (by kernel_rfl)) j1 bel (lt j1)
 have t2:=Below.trod laidOut (by kernel_rfl) (of_decide_eq_true (by kernel_rfl)) j2 bel (lt j2)
 have t3:=Below.trod laidOut (by kernel_rfl) (of_decide_eq_true (by kernel_rfl)) j3 bel (lt j3)
 have t4:=Below.trod laidOut (by kernel_rfl) (of_decide_eq_true (by kernel_rfl)) j4 bel (lt j4)
 have ta:=trodAll_cons_mk t0 (trodAll_cons_mk t1 (trodAll_cons_mk t2 (trodAll_cons_mk t3 (trodAll_cons_mk t4 trodAll_mk0))))
 exact ⟨_,rfl,_,_,_,[],_,[],hW',trodAll_mk1 (shut_bool Tryz.underlying4 _),ta,rfl,bel.frame _,fun h=>by cases h⟩
theorem over:Rows.fitSumsRow.holds Tryz.pinned (OpenSpec.ofChange Rows.fitSumsSpec):=
 OpenClaim.holds_of_wide 5 Tryz.f5 rfl rfl rfl rfl rfl rfl rfl ⟨rfl,rfl,rfl,rfl,rfl⟩ rfl rfl rfl rfl rfl (by kernel_rfl) Tryz.func5 (by kernel_rfl)
  (of_decide_eq_true (by kernel_rfl)) (by unfold Func.isWrapper;first | (rw [if_pos (by decide +kernel)];kernel_rfl) | (rw [if_neg (by decide +kernel)];exact ⟨rfl,rfl⟩))
  (fun os started H enc _=>lifted os started H enc)
end Go.Proofs.YtlmpoindlejefaaGreat.fitSums
namespace Go.Proofs.YtlmpoindlejefaaGreat
theorem fitSums_holds:Rows.FitSumsSaid:=fitSums.over
#print axioms fitSums_holds
end Go.Proofs.YtlmpoindlejefaaGreat
