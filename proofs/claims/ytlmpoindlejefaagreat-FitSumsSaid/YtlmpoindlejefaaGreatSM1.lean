/- Plain facts of long division, word by word: no program text. -/
import Derived.Test.YtlmpoindlejefaaGreatSM0
set_option linter.unusedVariables false
set_option linter.unusedSimpArgs false
namespace Go.Proofs.YtlmpoindlejefaaGreat.E
open Go Go.RowKit
section
variable {B E v1 v2 V V' T u2 U U' q r:Int}
theorem kn_big (hE:0<E) (hV':0<=V') (hV:V=(v1*B+v2)*E+V') (hU':U'<E) (hU:U=(T*B+u2)*E+U') (hq:0<=q) (hT:q*v1+r=T) (h:r*B+u2<q*v2):U<q*V:=by
 have h1:T*B+u2+1<=q*(v1*B+v2):=by subst hT;grind
 have h2:=Int.mul_le_mul_of_nonneg_right h1 (Int.le_of_lt hE)
 have h3:=Int.mul_nonneg hq hV'
 subst hV hU
 grind
theorem kn_ok (hB:0<=B) (hE:0<E) (h1:1<=v1) (h2:0<=v2) (hV':0<=V') (hVE:V'<E) (hV:V=(v1*B+v2)*E+V') (hU':0<=U') (hU:U=(T*B+u2)*E+U') (hq:0<=q) (hqB:q<=B) (hT:q*v1+r=T) (h:q*v2<=r*B+u2):(q - 1)*V<=U:=by
 have a1:q*(v1*B+v2)<=T*B+u2:=by subst hT;grind
 have a2:=Int.mul_le_mul_of_nonneg_right a1 (Int.le_of_lt hE)
 have a3:q*V'<=B*E:=Int.mul_le_mul hqB (Int.le_of_lt hVE) hV' hB
 have a4:1*(B*E)<=v1*(B*E):=Int.mul_le_mul_of_nonneg_right h1 (Int.mul_nonneg hB (Int.le_of_lt hE))
 have a5:=Int.mul_nonneg h2 (Int.le_of_lt hE)
 subst hV hU
 grind
theorem kn_rest (hB:0<=B) (h2:v2<=B) (h2':0<=v2) (hq:0<=q) (hqB:q<=B) (hu:0<=u2) (hr:B<=r):q*v2<=r*B+u2:=by
 have a1:q*v2<=B*B:=Int.mul_le_mul hqB h2 h2' hB
 have a2:B*B<=r*B:=Int.mul_le_mul_of_nonneg_right hr hB
 omega
theorem kn_top (hB:0<B) (hE:0<E) (hVE:V'<E) (hV:V=(v1*B+v2)*E+V') (hU':0<=U') (hu2:0<=u2) (hU:U=(T*B+u2)*E+U') (h:U<V*B):T<=v1*B+v2:=by
 apply Int.lt_add_one_iff.mp
 have hBE:=Int.mul_pos hB hE
 apply Int.lt_of_mul_lt_mul_right (a:=B*E) _ (Int.le_of_lt hBE)
 have a1:=Int.mul_nonneg hu2 (Int.le_of_lt hE)
 have a2:V'*B<=E*B:=Int.mul_le_mul_of_nonneg_right (Int.le_of_lt hVE) (Int.le_of_lt hB)
 subst hV hU
 grind
theorem quo_unique (hV:0<V) {q' r':Int} (h:U=q*V+r) (h0:0<=r) (h1:r<V) (h':U=q'*V+r') (h0':0<=r') (h1':r'<V):q=q'/\r=r':=by
 have e:q=q':=by
  rcases Int.lt_trichotomy q q' with c | c | c
  ·have:=Int.mul_le_mul_of_nonneg_right (show q+1<=q' by omega) (Int.le_of_lt hV)
   rw [Int.add_mul] at this;omega
  ·exact c
  ·have:=Int.mul_le_mul_of_nonneg_right (show q'+1<=q by omega) (Int.le_of_lt hV)
   rw [Int.add_mul] at this;omega
 subst e
 exact ⟨rfl,by omega⟩
end
end Go.Proofs.YtlmpoindlejefaaGreat.E
