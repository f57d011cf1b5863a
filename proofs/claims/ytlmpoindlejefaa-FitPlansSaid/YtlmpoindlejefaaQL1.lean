/- Records of the statements: matrices, numbers, sums of a fit. -/
import Derived.Test.YtlmpoindlejefaaQL0
namespace Go.Proofs.Ytlmpoindlejefaa.E
open Go Go.RowKit Go.ChangeShapes Go.WideShapes Go.Deep
section
variable {H:Type} {enc:TypeId×Value->H} {P:Program} {W:World} {t e:TypeId} {g0 g1 g2 g3 g4 f0 f1:Field} {v0 v1 v2 v3 v4 v5 v6 v7:Value} {B fuel:Nat}
theorem zIU {y:DataW H×List MemPlace} (he:P.underlying e=some (.struct #[f0,f1])) (o0:f0.offset=0) (o1:f1.offset=1) (c0:P.cellsOf f0.type=1) (c1:P.cellsOf f1.type=1) (i0:P.underlying f0.type=some (.int .i64)) (i1:P.underlying f1.type=some (.int .i64))
  (h:DataW.trod enc P W 0 (fun _=>true) true fuel e [v0,v1] =some y):∃ r:zn,v0= .int .i64 r.N/\v1= .int .i64 r.D/\InK .i64 r.N/\InK .i64 r.D:=by
 obtain ⟨y0,y1,n,hx,_,q0,q1⟩:=trod_struct2 he h
 rw [o0,c0] at q0
 rw [o1,c1] at q1
 have q0:DataW.trod enc P W 0 (fun _=>true) true n f0.type [v0] =some y0:=q0
 have q1:DataW.trod enc P W 0 (fun _=>true) true n f1.type [v1] =some y1:=q1
 obtain ⟨a,e0,_,w0⟩:=DataW.trod_int i0 q0
 obtain ⟨b,e1,_,w1⟩:=DataW.trod_int i1 q1
 exact ⟨⟨a,b⟩,by simpa using e0,by simpa using e1,zGF w0,zGF w1⟩
end
end Go.Proofs.Ytlmpoindlejefaa.E
