/- The engine, part 0: weakest preconditions as a monad; frames as lists of known slots. No program text. -/
import Derived.Below
import Derived.Tactics
import Derived.OrdersHeld
import Derived.Laws.BitsLemmas
import Derived.Laws.Bits64
import Derived.Laws.Rows
import Derived.Laws.Slices
namespace Go.Proofs.Ytbjnmmgnonldnaa.E
open Go Go.RowKit
structure W (α:Type) where
 run:(α->Prop)->Prop
 mono:∀ {p q:α->Prop},(∀ a,p a->q a)->run p->run q
namespace W
variable {α β S R:Type}
def ret (a:α):W α:=⟨fun p=>p a,fun h k=>h a k⟩
def bind (m:W α) (f:α->W β):W β:=⟨fun p=>m.run fun a=>(f a).run p,fun h k=>m.mono (fun a=>(f a).mono h) k⟩
def req (c:Prop) (m:W α):W α:=⟨fun p=>c/\m.run p,fun h k=>⟨k.1,m.mono h k.2⟩⟩
def fail:W α:=⟨fun _=>False,fun _ k=>k⟩
def any (c:α->Prop):W α:=⟨fun p=>∀ a,c a->p a,fun h k a ha=>h a (k a ha)⟩
end W
inductive Ctl (S R:Type) where
 | go (s:S)
 | brk (s:S)
 | out (r:R)
def Ctl.on {S R:Type} (G:S->Prop) (B:S->Prop) (O:R->Prop):Ctl S R->Prop
 | .go s=>G s
 | .brk s=>B s
 | .out r=>O r
inductive Lp (S R:Type) where
 | done (s:S)
 | out (r:R)
def Lp.on {S R β:Type} (D:S->W β) (O:R->W β):Lp S R->W β
 | .done s=>D s
 | .out r=>O r
def W.loop {S R:Type} (body:S->W (Ctl S R)) (s:S):W (Lp S R):=
 ⟨fun p=>∃ (I:S->Prop) (μ:S->Nat),I s/\∀ s,I s->(body s).run (Ctl.on (fun s'=>I s'/\μ s'<μ s) (fun s'=>p (.done s')) (fun r=>p (.out r))),
  fun {p q} h ⟨I,μ,h0,h1⟩=>⟨I,μ,h0,fun s hs=>(body s).mono (fun c hc=>by cases c <;> first | exact hc | exact h _ hc) (h1 s hs)⟩⟩
def lk:List (Nat×Value)->Nat->Option Value
 | [],_=>none
 | (s,v) ::l,t=>cond (Nat.beq s t) (some v) (lk l t)
def ev (L:List (Nat×Value)):Operand->Option Value
 | .tmp t=>lk L t
 | .const v=>some v
 | .func f=>some (.func (.func f) #[] #[])
 | .global g=>some (.pointer (some ⟨g,0,none⟩))
structure Fr (n:Nat) (L:List (Nat×Value)) (a:Act):Prop where
 defers:a.defers= []
 size:a.tmps.size=n
 get:∀ t v,lk L t=some v->a.tmps[t]? =some v
theorem Fr.ev {n:Nat} {L:List (Nat×Value)} {a:Act} (h:Fr n L a) {x:Operand} {v:Value} (hx:ev L x=some v):a.eval x=v:=by
 cases x with
 | tmp t=>have:=h.get t v hx;simp [Act.eval,Array.getD_eq_getD_getElem?,this]
 | const v'=>simpa [E.ev,Act.eval] using hx
 | func f=>simpa [E.ev,Act.eval] using hx
 | global g=>simpa [E.ev,Act.eval] using hx
theorem Fr.put {n d:Nat} {L:List (Nat×Value)} {a:Act} (h:Fr n L a) (hd:Nat.blt d n=true) (v:Value):Fr n ((d,v) ::L) (a.put (some d) v):=by
 have hd':d<n:=by simpa [Nat.blt_eq] using hd
 refine ⟨h.defers,by simp [Act.put,h.size],fun t u hu=>?_⟩
 simp only [lk] at hu
 by_cases e:d=t
 ·subst e
  have hb:Nat.beq d d=true:=by simp
  rw [hb] at hu
  simp only [cond_true,Option.some.injEq] at hu
  subst hu
  simp [Act.put,h.size,hd']
 ·have hb:Nat.beq d t=false:=by
   cases hc:Nat.beq d t with
   | true=>exact absurd (Nat.eq_of_beq_eq_true hc) e
   | false=>rfl
  rw [hb] at hu
  simp only [cond_false] at hu
  have:=h.get t u hu
  simp only [Act.put]
  rw [Array.getElem?_setIfInBounds_ne e]
  exact this
theorem Fr.nil {n:Nat} {L:List (Nat×Value)} {a:Act} (h:Fr n L a):Fr n [] a:=⟨h.defers,h.size,fun t v hv=>by simp [lk] at hv⟩
theorem Fr.keep {n t:Nat} {v:Value} {L L':List (Nat×Value)} {a:Act} (h:Fr n L a) (hv:lk L t=some v) (h':Fr n L' a):Fr n ((t,v) ::L') a:=
 ⟨h.defers,h.size,fun s u hu=>by
  simp only [lk] at hu
  cases hc:Nat.beq t s with
  | true=>
   rw [hc] at hu
   simp only [cond_true,Option.some.injEq] at hu
   subst hu
   rw [<- Nat.eq_of_beq_eq_true hc]
   exact h.get t v hv
  | false=>rw [hc] at hu;exact h'.get s u hu⟩
def enumL:Nat->List Value->List (Nat×Value)
 | _,[]=>[]
 | i,v ::l=>(i,v) ::enumL (i+1) l
theorem lk_enumL:∀ (vs:List Value) (i t:Nat) (v:Value),lk (enumL i vs) t=some v->∃ j,t=i+j/\vs[j]? =some v
 | [],i,t,v,h=>by simp [enumL,lk] at h
 | u ::l,i,t,v,h=>by
  simp only [enumL,lk] at h
  cases hc:Nat.beq i t with
  | true=>
   rw [hc] at h
   exact ⟨0,(Nat.eq_of_beq_eq_true hc).symm,by simpa using h⟩
  | false=>
   rw [hc] at h
   obtain ⟨j,hj,hv⟩:=lk_enumL l (i+1) t v h
   exact ⟨j+1,by omega,by simpa using hv⟩
theorem Fr.enter {n:Nat} (vs:List Value) (hle:vs.length<=n):Fr n (enumL 0 vs) { tmps:=vs.toArray ++ Array.replicate (n - vs.toArray.size) undef,defers:=[] }:=by
 refine ⟨rfl,by simp;omega,fun t v hv=>?_⟩
 obtain ⟨j,hj,hv'⟩:=lk_enumL vs 0 t v hv
 have:t=j:=by omega
 subst this
 have hlt:t<vs.length:=by
  rcases Nat.lt_or_ge t vs.length with h | h
  ·exact h
  ·rw [List.getElem?_eq_none h] at hv';cases hv'
 rw [Array.getElem?_append_left (by simpa using hlt)]
 simpa using hv'
section
variable {P:Program} {f:FuncId} {fn:Func} {c:Code} {w:World} {R:Ending->World->Prop} {n:Nat}
theorem enter (vs:List Value) (hf:P.funcs[f]? =some fn) (hb:fn.body=some c) (hn:fn.ntmps=n) (hle:Nat.ble vs.length n=true)
  (h:∀ a,Fr n (enumL 0 vs) a->c.wp P (bodyPost P fn R) a w):Calls P f vs.toArray w R:=by
 subst hn
 exact calls_of_wp hf hb (h _ (Fr.enter vs (Nat.le_of_ble_eq_true hle)))
end
end Go.Proofs.Ytbjnmmgnonldnaa.E
