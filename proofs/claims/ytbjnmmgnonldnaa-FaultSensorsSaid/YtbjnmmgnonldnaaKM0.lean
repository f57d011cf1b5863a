/- Joined. -/
import Derived.Test.YtbjnmmgnonldnaaKE9
namespace Go.Proofs.Ytbjnmmgnonldnaa.E
open Go Go.RowKit
end Go.Proofs.Ytbjnmmgnonldnaa.E
namespace Go.Proofs.Ytbjnmmgnonldnaa.E
open Go Go.RowKit
section
variable {B E v1 v2 V V' T u2 U U' q r:Int}
end
end Go.Proofs.Ytbjnmmgnonldnaa.E
namespace Go.Proofs.Ytbjnmmgnonldnaa.E
open Go Go.RowKit
section
variable {α β S R:Type}
theorem W.bd {m:W α} {f:α->W β} {p:β->Prop} (h:m.run fun a=>(f a).run p):(W.bind m f).run p:=h
theorem W.req_i {c:Prop} {m:W α} {p:α->Prop} (hc:c) (h:m.run p):(W.req c m).run p:=⟨hc,h⟩
theorem W.any_r (c:α->Prop) (p:α->Prop):(W.any c).run p= ∀ a,c a->p a:=rfl
theorem W.loop_c {body:S->W (Ctl S R)} {s:S} {D:S->W β} {O:R->W β} {Q:β->Prop} (I:S->Prop) (μ:S->Nat) (h0:I s)
  (h:∀ s P,I s->(∀ s',I s'->μ s'<μ s->P (.go s'))->(∀ s',(D s').run Q->P (.brk s'))->(∀ r,(O r).run Q->P (.out r))->(body s).run P):(W.bind (W.loop body s) (Lp.on D O)).run Q:=
 ⟨I,μ,h0,fun s hs=>h s _ hs (fun s' a b=>⟨a,b⟩) (fun s' k=>k) (fun r k=>k)⟩
theorem W.run_if {c:Prop} [Decidable c] {a b:W α} {p:α->Prop} (h1:c->a.run p) (h2: ¬ c->b.run p):(if c then a else b).run p:=by
 split
 ·exact h1 ‹_›
 ·exact h2 ‹_›
end
theorem ishr_n (k:IntKind) (x:Int) (n:Nat) (h:n<=k.bits):ishr k x n=x / 2 ^ n:=by
 unfold ishr
 rw [Int.toNat_natCast,Nat.min_eq_left h]
 exact Int.fdiv_eq_ediv_of_nonneg _ (Int.le_of_lt (Int.pow_pos (by decide)))
theorem ishl_n (k:IntKind) (x:Int) (n:Nat) (h:n<=k.bits):ishl k x n=k.wrap (x*2 ^ n):=by
 unfold ishl
 rw [Int.toNat_natCast,Nat.min_eq_left h]
theorem wrap_u64 (x:Int):IntKind.u64.wrap x=x % 18446744073709551616:=by simp [IntKind.wrap,IntKind.bits,IntKind.signed]
end Go.Proofs.Ytbjnmmgnonldnaa.E
