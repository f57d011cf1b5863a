/- The engine, part 12: words for the shortened walks. No program text. -/
import Derived.Test.YtlmpoindlejefaaGreatSE11
namespace Go.Proofs.YtlmpoindlejefaaGreat.E
open Go Go.RowKit
abbrev I6 (n:Int):Value:=.int .i64 n
theorem dT {p:Prop} [Decidable p] (h:p):decide p=true:=decide_eq_true h
theorem dF {p:Prop} [Decidable p] (h: ¬ p):decide p=false:=decide_eq_false h
theorem nB {a b:Nat} (h:Nat.ble a b=true):a<=b:=Nat.le_of_ble_eq_true h
theorem wB {α β:Type} {m:W α} {f:α->W β} {p:β->Prop} (h:(W.bind m f).run p):m.run fun a=>(f a).run p:=h
theorem wR {α:Type} {c:Prop} {m:W α} {p:α->Prop} (h:(W.req c m).run p):c/\m.run p:=h
theorem fA {n:Nat} {X:Nat->Prop} :∀ b,b<n->n<=b->X b:=fun _ hb h=>absl hb h
theorem fJ {p:Prop} (h:p):p:=h
theorem aR {w:World} {b:Nat} {cs:Array Value} {t:TypeId} {fr:Nat×Nat} (h:w.heap[b]? =some (.cells cs t fr)):At w b 0 cs.toList:=At.of_row h
theorem dS {A B:Nat->Prop} (h:Dis A B):Dis B A:=h.symm
theorem bq {α:Type} {c:Prop} {i:Decidable c} {a b:W α} {p:α->Prop} (H:(@ite _ c i a b).run p):c/\a.run p\/¬ c/\b.run p:=by
 by_cases h:c
 ·exact .inl ⟨h,by rwa [if_pos h] at H⟩
 ·exact .inr ⟨h,by rwa [if_neg h] at H⟩
theorem sa {k:IntKind} {x:Int} (h:InK k x:=by first | omega | (dsimp only;omega) | simp [InK]):InK k x:=h
theorem Step.t {M M' M'':Nat->Prop} {w w' w'':World} (h:Step M w M' w') (k:Step M' w' M'' w''):Step M w M'' w'':=Step.trans h k
theorem sB {Wr M0 M:Nat->Prop} {w0 w w':World} (h:St Wr w0 M0 w M) (k:Below w.heap.size w w'):St Wr w0 M0 w' M/\Step M w M w':=⟨h.below k,Step.below k⟩
section
variable {P:Program} {L:List (Nat×Value)} {w:World} {x:Tmp} {v:Value}
theorem rv (h:lk L x=some v):RV P L w (.tmp x) v:=RV.tmp h
end
end Go.Proofs.YtlmpoindlejefaaGreat.E
