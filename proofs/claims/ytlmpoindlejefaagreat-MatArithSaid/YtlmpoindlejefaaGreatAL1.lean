/- Records of the statements: matrices, numbers, sums of a fit. -/
import Derived.Test.YtlmpoindlejefaaGreatAL0
namespace Go.Proofs.YtlmpoindlejefaaGreat.E
open Go Go.RowKit Go.ChangeShapes Go.WideShapes Go.Deep
section
variable {H:Type} {enc:TypeId×Value->H} {P:Program} {W:World} {t e:TypeId} {g0 g1 g2 g3 g4 f0 f1:Field} {v0 v1 v2 v3 v4 v5 v6 v7:Value} {B fuel:Nat}
theorem wts {ts:List TypeId} {ds:List (DataW H)} {j:Nat} {d:DataW H} (hsz:(DataW.weightsEach P ts ds).all (· <=reachBytes)=true) (ht:ts[j]? =some t) (hd:ds[j]? =some d):∀ n ∈ d.weights P t,n<=reachBytes:=fun n hn=>by
 simpa using List.all_eq_true.1 hsz n (DataW.weights_mem_each ht hd n hn)
theorem open_rat_n {y:DataW H×List MemPlace} (he:P.underlying e=some (.struct #[f0,f1])) (o0:f0.offset=0) (o1:f1.offset=1) (c0:P.cellsOf f0.type=1) (c1:P.cellsOf f1.type=1) (i0:P.underlying f0.type=some (.int .i64)) (i1:P.underlying f1.type=some (.int .i64))
  (h:DataW.trod enc P W 0 (fun _=>true) true fuel e [v0,v1] =some y):∃ r:api_Rat,v0= .int .i64 r.N/\v1= .int .i64 r.D/\InK .i64 r.N/\InK .i64 r.D:=by
 obtain ⟨y0,y1,n,hx,_,q0,q1⟩:=trod_struct2 he h
 rw [o0,c0] at q0
 rw [o1,c1] at q1
 have q0:DataW.trod enc P W 0 (fun _=>true) true n f0.type [v0] =some y0:=q0
 have q1:DataW.trod enc P W 0 (fun _=>true) true n f1.type [v1] =some y1:=q1
 obtain ⟨a,e0,_,w0⟩:=DataW.trod_int i0 q0
 obtain ⟨b,e1,_,w1⟩:=DataW.trod_int i1 q1
 exact ⟨⟨a,b⟩,by simpa using e0,by simpa using e1,wf_i64 w0,wf_i64 w1⟩
theorem open_slice_n {y:DataW H×List MemPlace} (hsz:∀ n ∈ y.1.weights P t,n<=reachBytes) (hu:P.underlying t=some (.slice e)) (he:P.underlying e=some (.struct #[f0,f1]))
  (ce:P.cellsOf e=2) (o0:f0.offset=0) (o1:f1.offset=1) (c0:P.cellsOf f0.type=1) (c1:P.cellsOf f1.type=1) (i0:P.underlying f0.type=some (.int .i64)) (i1:P.underlying f1.type=some (.int .i64)) (hB:P.bytesOf e=B) (hB1:1<=B)
  (h:DataW.trod enc P W 0 (fun _=>true) true fuel t [v2] =some y):∃ (xs:List api_Rat) (a:Option Addr) (cap:Nat),v2= .slice a xs.length cap/\xs.length<=cap/\xs.length<=281474976710656/\Rd k_api_Rat (fun _=>False) W a xs:=by
 obtain ⟨a,len,cap,rfl⟩:∃ a len cap,v2= .slice a len cap:=by
  rcases open_slice hu h with ⟨hcs,_⟩ | ⟨a',l,c,_,_,_,_,hcs,_⟩
  ·exact ⟨none,0,0,by simpa using hcs⟩
  ·exact ⟨some a',l,c,by simpa using hcs⟩
 obtain ⟨xs,rfl,hc,hb,hR⟩:=open_pairs_w (ps:=y.2) hsz hu he ce o0 o1 c0 c1 i0 i1 hB hB1 ⟨fuel,h⟩
 exact ⟨xs,a,cap,rfl,hc,hb,hR⟩
theorem open_mat_n {y:DataW H×List MemPlace} (hsz:∀ n ∈ y.1.weights P t,n<=reachBytes) (hs:P.underlying t=some (.struct #[g0,g1,g2])) (k0:g0.offset=0) (k1:g1.offset=1) (k2:g2.offset=2) (l0:P.cellsOf g0.type=1) (l1:P.cellsOf g1.type=1) (l2:P.cellsOf g2.type=1)
  (n0:P.underlying g0.type=some (.int .i64)) (n1:P.underlying g1.type=some (.int .i64)) (hu:P.underlying g2.type=some (.slice e)) (he:P.underlying e=some (.struct #[f0,f1]))
  (ce:P.cellsOf e=2) (o0:f0.offset=0) (o1:f1.offset=1) (c0:P.cellsOf f0.type=1) (c1:P.cellsOf f1.type=1) (i0:P.underlying f0.type=some (.int .i64)) (i1:P.underlying f1.type=some (.int .i64)) (hB:P.bytesOf e=B) (hB1:1<=B)
  (hf:DataW.trod enc P W 0 (fun _=>true) true fuel t [v0,v1,v2] =some y):∃ (m:api_Mat) (a:Option Addr) (cap:Nat),v0= .int .i64 m.R/\v1= .int .i64 m.C/\v2= .slice a m.V.length cap/\InK .i64 m.R/\InK .i64 m.C/\m.V.length<=cap/\m.V.length<=281474976710656/\Rd k_api_Rat (fun _=>False) W a m.V:=by
 obtain ⟨y0,y1,y2,n,rfl,_,q0,q1,q2⟩:=trod_struct3 hs hf
 rw [k0,l0] at q0
 rw [k1,l1] at q1
 rw [k2,l2] at q2
 have q0:DataW.trod enc P W 0 (fun _=>true) true n g0.type [v0] =some y0:=q0
 have q1:DataW.trod enc P W 0 (fun _=>true) true n g1.type [v1] =some y1:=q1
 have q2:DataW.trod enc P W 0 (fun _=>true) true n g2.type [v2] =some y2:=q2
 obtain ⟨r,e0,_,w0⟩:=DataW.trod_int n0 q0
 obtain ⟨c,e1,_,w1⟩:=DataW.trod_int n1 q1
 have hw:∀ n ∈ y2.1.weights P g2.type,n<=reachBytes:=fun n hn=>hsz n (by
  simp only [DataW.weights,hs,DataW.weightsEach,List.map,List.mem_append]
  exact .inr (.inr (.inl hn)))
 obtain ⟨xs,a,cap,e2,hc,hb,hR⟩:=open_slice_n hw hu he ce o0 o1 c0 c1 i0 i1 hB hB1 q2
 exact ⟨⟨r,c,xs⟩,a,cap,by simpa using e0,by simpa using e1,e2,wf_i64 w0,wf_i64 w1,hc,hb,hR⟩
end
end Go.Proofs.YtlmpoindlejefaaGreat.E
