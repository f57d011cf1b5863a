/- Joined. -/
import Derived.Test.YtlmpoindlejefaaGreatAE10
import Derived.Maps.Keyed
import Derived.Carry
set_option linter.unusedVariables false
namespace Go.Proofs.YtlmpoindlejefaaGreat.E
open Go Go.RowKit
section
variable {Wr Wr' Wf M M' M0 C:Nat->Prop} {w w' w0:World} {b:Nat} {f:Int->Bool}
variable {P:Program} {o:Oper} {n:Nat} {L:List (Nat×Value)} {T kt vt:TypeId} {x y z:Operand} {k:Int} {v:Bool}
end
end Go.Proofs.YtlmpoindlejefaaGreat.E
namespace Go.Proofs.YtlmpoindlejefaaGreat.E
open Go Go.RowKit
abbrev I6 (n:Int):Value:=.int .i64 n
theorem dT {p:Prop} [Decidable p] (h:p):decide p=true:=decide_eq_true h
theorem dF {p:Prop} [Decidable p] (h: ¬ p):decide p=false:=decide_eq_false h
theorem nB {a b:Nat} (h:Nat.ble a b=true):a<=b:=Nat.le_of_ble_eq_true h
theorem wB {α β:Type} {m:W α} {f:α->W β} {p:β->Prop} (h:(W.bind m f).run p):m.run fun a=>(f a).run p:=h
theorem wR {α:Type} {c:Prop} {m:W α} {p:α->Prop} (h:(W.req c m).run p):c/\m.run p:=h
theorem fA {n:Nat} {X:Nat->Prop} :∀ b,b<n->n<=b->X b:=fun _ hb h=>absl hb h
theorem fJ {p:Prop} (h:p):p:=h
theorem aR {w:World} {b:Nat} {cs:Array Value} {t:TypeId} {fr:Nat×Nat} (h:w.heap[b]? =some (.cells cs t fr)):At w b 0 cs.toList:=At.of_row h
theorem dS {A B:Nat->Prop} (h:Dis A B):Dis B A:=h.symm
theorem bq {α:Type} {c:Prop} {i:Decidable c} {a b:W α} {p:α->Prop} (H:(@ite _ c i a b).run p):c/\a.run p\/¬ c/\b.run p:=by
 by_cases h:c
 ·exact .inl ⟨h,by rwa [if_pos h] at H⟩
 ·exact .inr ⟨h,by rwa [if_neg h] at H⟩
theorem sa {k:IntKind} {x:Int} (h:InK k x:=by first | omega | (dsimp only;omega) | simp [InK]):InK k x:=h
theorem Step.t {M M' M'':Nat->Prop} {w w' w'':World} (h:Step M w M' w') (k:Step M' w' M'' w''):Step M w M'' w'':=Step.trans h k
theorem sB {Wr M0 M:Nat->Prop} {w0 w w':World} (h:St Wr w0 M0 w M) (k:Below w.heap.size w w'):St Wr w0 M0 w' M/\Step M w M w':=⟨h.below k,Step.below k⟩
section
variable {P:Program} {L:List (Nat×Value)} {w:World} {x:Tmp} {v:Value}
theorem rv (h:lk L x=some v):RV P L w (.tmp x) v:=RV.tmp h
end
end Go.Proofs.YtlmpoindlejefaaGreat.E
namespace Go.Proofs.YtlmpoindlejefaaGreat.E
open Go Go.RowKit
abbrev sn:Value:=.slice none 0 0
abbrev pq (b:Nat):Value:=.pointer (some ⟨b,0,none⟩)
theorem ixb {a b:Prop} (h:a) (e:a->b:=by first | exact fun h=>h | (intro h;(try simp only [List.length_set] at h |-);first | exact h | omega)):b:=e h
section
variable {P:Program} {ops:Array Oper} {Q:Exit->Act->World->Prop} {rest:List Oper} {n:Nat} {L:List (Nat×Value)} {w w0:World} {o o1 o2 o3:Oper} {d:Nat} {v u:Value} {x y z:Operand} {T T' e:TypeId} {k:IntKind} {t:TypeDesc} {Wf Wr M M0:Nat->Prop} {b:Nat} {cs:Array Value}
theorem xm (ho:o.op= .move x:=by rfl) (hx:ev L x=some v:=by rfl) (hw:wantB ops L o=some true:=by rfl) (hd:o.dst=some d:=by rfl) (hn:Nat.blt d n=true:=by rfl) (k:WL P ops Q rest n ((d,v) ::L) w):WL P ops Q (o ::rest) n L w:=va (o_mv ho hx) k hw hd hn
theorem xs (ho:o.op= .assign x:=by rfl) (hx:ev L x=some v:=by rfl) (hw:wantB ops L o=some true:=by rfl) (hd:o.dst=some d:=by rfl) (hn:Nat.blt d n=true:=by rfl) (k:WL P ops Q rest n ((d,v) ::L) w):WL P ops Q (o ::rest) n L w:=va (o_as ho hx) k hw hd hn
theorem xe {vs:Array Value} {i:Nat} (ho:o.op= .extract x i:=by rfl) (hx:ev L x=some (.tuple vs):=by rfl) (hv:vs[i]? =some v:=by rfl) (hw:wantB ops L o=some true:=by rfl) (hd:o.dst=some d:=by rfl) (hn:Nat.blt d n=true:=by rfl) (k:WL P ops Q rest n ((d,v) ::L) w):WL P ops Q (o ::rest) n L w:=va (o_ex ho hx hv) k hw hd hn
theorem xf (ho:o.op= .pick x y z:=by rfl) (hx:ev L x=some (.bool false):=by rfl) (hy:ev L z=some v:=by rfl) (hw:wantB ops L o=some true:=by rfl) (hd:o.dst=some d:=by rfl) (hn:Nat.blt d n=true:=by rfl) (k:WL P ops Q rest n ((d,v) ::L) w):WL P ops Q (o ::rest) n L w:=va (o_pkf ho hx hy) k hw hd hn
theorem xw (h1:wantB ops L o1=some false:=by rfl) (n1:fits o1.dst n=true:=by rfl) (h2:wantB ops (putL o1.dst undef L) o2=some false:=by rfl) (n2:fits o2.dst n=true:=by rfl) (h3:wantB ops (putL o2.dst undef (putL o1.dst undef L)) o3=some false:=by rfl) (n3:fits o3.dst n=true:=by rfl) (k:WL P ops Q rest n (putL o3.dst undef (putL o2.dst undef (putL o1.dst undef L))) w):WL P ops Q (o1 ::o2 ::o3 ::rest) n L w:=xo h1 n1 (xo h2 n2 (xo h3 n3 k))
theorem la {b off:Nat} (hu:P.underlying T=some t) (hc:w.cell? ⟨b,off,none⟩ =some v) (ho:o.op= .load T x:=by rfl) (hd:isAgg t=false:=by rfl) (hx:ev L x=some (.pointer (some ⟨b,off,none⟩)):=by rfl):OpV P o n L w v:=o_ld1 ho hu hd hx hc
theorem ln {b off:Nat} {cs:List Value} (hu:P.underlying T=some t) (hs:(P.info? T).map (·.size)=some cs.length) (hc:At w b off cs) (ho:o.op= .load T x:=by rfl) (hd:isAgg t=true:=by rfl) (hx:ev L x=some (.pointer (some ⟨b,off,none⟩)):=by rfl):OpV P o n L w (.agg cs.toArray):=o_ldn ho hu hd hs hx hc
theorem fa_ {i b off s:Nat} {fs:Array Field} {f:Field} (hu:P.underlying T=some (.struct fs)) (hs:(P.info? T').map (·.size)=some (s+1)) (ho:o.op= .fieldAddr T x i:=by rfl) (hf:fs[i]? =some f:=by rfl) (hx:ev L x=some (.pointer (some ⟨b,off,none⟩)):=by rfl) (ht:f.type=T':=by rfl):OpV P o n L w (.pointer (some ⟨b,off+f.offset,none⟩)):=o_fa ho hu hf (ht ▸ hs) hx
theorem iA {b off m c s:Nat} {A:Option Addr} {i:Int} (hu:P.underlying T=some (.slice e)) (hs:(P.info? e).map (·.size)=some s) (hA:A=some ⟨b,off,none⟩) (h:0<=i/\i<m) (ho:o.op= .indexAddr T x y:=by rfl) (hx:ev L x=some (.slice A m c):=by rfl) (hy:ev L y=some (.int k i):=by rfl):OpV P o n L w (.pointer (some ⟨b,off+i.toNat*s,none⟩)):=o_iaA ho hu hs hx hA hy h.1 h.2
theorem iV {b off m c s:Nat} {i:Int} (hu:P.underlying T=some (.slice e)) (hs:(P.info? e).map (·.size)=some s) (hv:v= .slice (some ⟨b,off,none⟩) m c) (h:0<=i/\i<m) (ho:o.op= .indexAddr T x y:=by rfl) (hx:ev L x=some v:=by rfl) (hy:ev L y=some (.int k i):=by rfl):OpV P o n L w (.pointer (some ⟨b,off+i.toNat*s,none⟩)):=o_iaV ho hu hs hx hv hy h.1 h.2
theorem stp {off:Nat} (ho:o.op= .store T x y) (hx:ev L x=some (.pointer (some ⟨b,off,none⟩))) (hy:ev L y=some u) (hs:(P.info? T).map (·.size)=some u.cells.size) {T':TypeId} (h1:∀ z ∈ u.cells.toList,z.oneCell'=true) (hb:Mb Wf M w b T' cs) (hW:∀ b,Wf b->Wr b) (hS:St Wr w0 M0 w M) (hl:off+u.cells.size<=cs.size:=by exact nB rfl):OpC P o n L w (fun _ w'=>Mb Wf M w' b T' (cs.toList.take off ++ u.cells.toList ++ cs.toList.drop (off+u.cells.toList.length)).toArray/\St Wr w0 M0 w' M/\Step M w M w'/\w.grownBy w' (some b)):=o_stpW ho hx hy hs hl h1 hb hW hS
end
end Go.Proofs.YtlmpoindlejefaaGreat.E
namespace Go.Proofs.YtlmpoindlejefaaGreat.E
open Go Go.RowKit
section
variable {P:Program} {o:Oper} {n:Nat} {L:List (Nat×Value)} {w:World} {x y:Operand} {T e:TypeId} {k k':IntKind} {Wr M:Nat->Prop} {α:Type} {a:Kd α}
end
section
variable {Wr M M1:Nat->Prop} {w w1 w2:World} {α:Type} {a:Kd α} {e1 e2:TypeId} {v u:Value} {us:List Value} {xss:List (List α)} {i:Int}
end
section
variable {P:Program} {ops:Array Oper} {Q:Exit->Act->World->Prop} {ds tail:List Nat} {E:List (Nat×Value)->World->Prop} {C:Nat->Prop} {w0 w:World} {n i:Nat} {r:List Stp} {pend:List Late} {had:Nat->Prop} {L:List (Nat×Value)} {M:Nat->Prop}
end
end Go.Proofs.YtlmpoindlejefaaGreat.E
namespace Go.Proofs.YtlmpoindlejefaaGreat.E
open Go Go.RowKit
section
variable {P:Program} {o:Oper} {n:Nat} {L:List (Nat×Value)} {w:World} {x y:Operand} {T e:TypeId} {k k' k'':IntKind} {Wr M N:Nat->Prop} {α:Type} {a:Kd α} {xs:List α}
theorem Rd.sldt3 {A:Option Addr} (h:Rd a M w A xs) {i j g:Int} (h0:0<=i) (h1:i<=j) (h2:j<=xs.length) (h3:j<=g):Rd a M w (slA A g.toNat i a.sz) ((xs.drop i.toNat).take (j - i).toNat):=by
 rcases Int.lt_or_eq_of_le h1 with hlt | rfl
 ·have:=Rd.sldt (c:=xs.length) h (Nat.le_refl _) h0 h1 h2
  unfold slA at this |-
  rw [if_neg (by omega)] at this |-
  exact this
 ·rw [Int.sub_self,Int.toNat_zero,List.take_zero]
  exact .inl rfl
theorem o_sldt3 {A:Option Addr} {m c s:Nat} {i j g:Int} {lo hi mx:Operand} (ho:o.op= .slice T x (some lo) (some hi) (some mx)) (hu:P.underlying T=some (.slice e)) (hs:(P.info? e).map (·.size)=some s) (hx:ev L x=some (.slice A m c)) (hlo:ev L lo=some (.int k i)) (hhi:ev L hi=some (.int k' j)) (hmx:ev L mx=some (.int k'' g)) (hc:m<=c) (h0:0<=i) (h1:i<=j) (h2:j<=g) (h3:g<=m) {q:Nat} (hq:q=j.toNat - i.toNat) :
  OpV P o n L w (.slice (slA A g.toNat i s) q (g.toNat - i.toNat)):=fun act ha=>by
 subst hq
 obtain ⟨inf,hinf,hz⟩:=Option.map_eq_some_iff.1 hs
 have b1:(Instr.sliceBound (.int k'' g) c .slice3Acap).run P w= .ok g.toNat w:=run_sliceBound w k'' g c _ (by omega) (by omega)
 have b2:(Instr.sliceBound (.int k' j) g.toNat .slice3B).run P w= .ok j.toNat w:=run_sliceBound w k' j g.toNat _ (by omega) (by omega)
 have b3:(Instr.sliceBound (.int k i) j.toNat .slice3C).run P w= .ok i.toNat w:=run_sliceBound w k i j.toNat _ h0 (by omega)
 simp only [execOp,ho,ha.ev hx,Option.map_some,ha.ev hlo,ha.ev hhi,ha.ev hmx,Instr.sliceAt,Option.map_none,Sem.run_bind,run_underlying hu,Result.andThen_ok,Instr.slice,Instr.sliceBounds,Sem.run_pure,b1,if_true,Option.isSome_some,b2,b3,sizeOf,typeInfo,run_program,hinf,hz,slA]
end
section
variable {P:Program} {w:World}
end
section
variable {P:Program} {o:Oper} {n:Nat} {L:List (Nat×Value)} {w w0:World} {x y:Operand} {T T' e:TypeId} {Wr Wf M M0:Nat->Prop} {α:Type} {a:Kd α} {k kk:IntKind}
end
end Go.Proofs.YtlmpoindlejefaaGreat.E
namespace Go.Proofs.YtlmpoindlejefaaGreat.E
open Go Go.RowKit
theorem o_fn {P:Program} {o:Oper} {n:Nat} {L:List (Nat×Value)} {w:World} {f:FuncId} {fs cs:List Operand} {us vs:List Value} (ho:o.op= .makeFunc (.func f) fs.toArray cs.toArray) (h1:evs L fs=some us) (h2:evs L cs=some vs):OpV P o n L w (.func (.func f) us.toArray vs.toArray):=fun a ha=>by
 simp only [execOp,ho,Sem.run_bind,Instr.makeFunc,Sem.run_pure,Result.andThen_ok,List.map_toArray,Act.eval]
 rw [ha.evs h1,ha.evs h2]
theorem o_callC {P:Program} {o:Oper} {n:Nat} {L:List (Nat×Value)} {w:World} {c:Call} {f:FuncId} {x:Operand} {xs:List Operand} {us vs cs ws:List Value} {post:Value->World->Prop} (ho:o.op= .call c) (hc:c.callee= .value x) (hx:ev L x=some (.func (.func f) us.toArray cs.toArray)) (has:c.args=xs.toArray) (hv:evs L xs=some vs) (hf:callable P f=true) (he:us ++ vs ++ cs=ws)
  (h:Calls P f ws.toArray w (fun e w'=>∃ v,e= .returned v/\post v w')):OpC P o n L w post:=fun a ha K Q hK=>by
 have hr:(execOp a.eval o).run P w= .ok (.enter f ws.toArray) w:=by
  simp only [execOp,ho,Sem.run_bind,resolve,hc,has,ha.ev hx,Deferred.ofValue,Sem.run_pure,Result.andThen_ok,invoke]
  have:(xs.toArray.map a.eval)=vs.toArray:=by rw [List.map_toArray,ha.evs hv]
  simp only [this]
  rw [show (us.toArray ++ vs.toArray ++ cs.toArray:Array Value)=ws.toArray by rw [<- he];simp]
  exact callFunc_run hf _ _
 unfold Oper.wp
 rw [hr,Oper.upon_enter]
 refine Calls.mono h fun e w' he=>?_
 obtain ⟨v,rfl,hp⟩:=he
 exact hK v w' hp
theorem Mb.freeze {Wr M M0:Nat->Prop} {w w0:World} {b:Nat} {T:TypeId} {cs:Array Value} (hS:St Wr w0 M0 w M) (h:Mb (fun b=>w0.heap.size<=b) M w b T cs) (hM:∀ b,M0 b->b<w0.heap.size) :
  ∃ M',St Wr w0 M0 w M'/\Step M w M' w/\(∀ c,M c->¬ Bb b c->M' c)/\(∀ c,M' c->M c)/\Bx M' w b cs.toList:=by
 have hst:Step M w (fun c=>M c/\¬ Bb b c) w:=Step.weak fun b hb=>hb.1
 refine ⟨fun c=>M c/\¬ Bb b c,⟨hS.eff,hS.step.trans hst,fun c hc=>⟨hS.inc c hc,fun hg=>?_⟩,fun c hc=>hS.lt c hc.1⟩,hst,fun c h1 h2=>⟨h1,h2⟩,fun c hc=>hc.1,⟨fun hm=>hm.2 rfl,h.lt,At.of_row h.row⟩⟩
 have h1:=h.wr
 have h2:=hM c hc
 rw [show c=b from hg] at h2
 omega
end Go.Proofs.YtlmpoindlejefaaGreat.E
namespace Go.Proofs.YtlmpoindlejefaaGreat.E
open Go Go.RowKit Go.Proofs.YtlmpoindlejefaaGreatW.PrintLast
inductive OT where
 | e
 | c (i:Nat) (s a:OT)
def OT.heads:OT->List Nat
 | .e=>[]
 | .c i _ a=>i ::a.heads
def OT.depth:OT->Nat
 | .e=>0
 | .c _ s a=>max (s.depth+1) a.depth
def chkTr (ops:Array Oper):Bool->Array Bool->OT->Bool
 | b,l,.e=>!b || Region.ready .any ops l == []
 | b,l,.c i s a=>(!b || Region.ready .any ops l == i ::a.heads) && chkTr ops true (l.setIfInBounds i true) s && chkTr ops false l a
section
variable {P:Program} {ops:Array Oper} {Q:Exit->Act->World->Prop} {n i d:Nat} {ds:List Nat} {w0:World} {C:Nat->Prop} {L:List (Nat×Value)} {w:World} {o:Oper} {v:Value} {u t:OT}
def TD (P:Program) (ops:Array Oper) (Q:Exit->Act->World->Prop) (ds:List Nat) (C:Nat->Prop) (w0:World) (n i:Nat) (K:List (Nat×Value)->World->Prop) (L:List (Nat×Value)) (w:World):Prop:=
 ∃ o,ops[i]? =some o/\fits o.dst n=true/\((wantB ops L o=some false/\K (putL o.dst undef L) w)\/(wantB ops L o=some true/\∃ post,OpC P o n L w post/\∀ v w',post v w'->(i ∉ ds->Chg w0 w C->Chg w0 w' C)/\K (putL o.dst v L) w'))
def TT (P:Program) (ops:Array Oper) (Q:Exit->Act->World->Prop) (ds:List Nat) (C:Nat->Prop) (w0:World) (n:Nat):Bool->OT->List (Nat×Value)->World->Prop
 | b,.e,L,w=>b=true->∀ a,Fr n L a->Q .normal a w
 | _,.c i s a,L,w=>TD P ops Q ds C w0 n i (TT P ops Q ds C w0 n true s) L w/\TT P ops Q ds C w0 n false a L w
theorem TT.sound (hq:PanicQ Q):∀ (t:OT) (b:Bool) (l:Array Bool) (L:List (Nat×Value)) (w:World) (a:Act) (f:Nat),chkTr ops b l t=true->TT P ops Q ds C w0 n b t L w->Fr n L a->t.depth<=f->
  (b=true->wpAnyLast P .any ops Q (fun w'=>Chg w0 w' C) ds f l a w)/\∀ f',f=f'+1->∀ j ∈ t.heads,wpOp P ops Q j (fun a' w'=>(j ∉ ds->Chg w0 w C->Chg w0 w' C)/\wpAnyLast P .any ops Q (fun w'=>Chg w0 w' C) ds f' (l.setIfInBounds j true) a' w') a w
 | .e,b,l,L,w,a,f,hc,h,ha,hf=>by
  refine ⟨fun hb=>?_,fun f' _ j hj=>by simp [OT.heads] at hj⟩
  subst hb
  exact wpAnyLast_done (by simpa [chkTr] using hc) (h rfl a ha) _
 | .c i s t,b,l,L,w,a,f,hc,h,ha,hf=>by
  simp only [chkTr,Bool.and_eq_true] at hc
  obtain ⟨⟨h1,h2⟩,h3⟩:=hc
  obtain ⟨hd,ht⟩:=h
  simp only [OT.depth] at hf
  have hs:∀ f',f=f'+1->∀ j ∈ (OT.c i s t).heads,wpOp P ops Q j (fun a' w'=>(j ∉ ds->Chg w0 w C->Chg w0 w' C)/\wpAnyLast P .any ops Q (fun w'=>Chg w0 w' C) ds f' (l.setIfInBounds j true) a' w') a w:=by
   intro f' hf' j hj
   rcases List.mem_cons.1 hj with rfl | hj
   ·obtain ⟨o,hi,hft,hk⟩:=hd
    unfold wpOp
    simp only [hi]
    rcases hk with ⟨hw,hk⟩ | ⟨hw,post,hop,hk⟩
    ·rw [if_neg (by rw [wantB_spec hw ha];simp)]
     exact ⟨fun _ h=>h,(TT.sound hq s true _ _ w _ f' h2 hk (ha.putL hft undef) (by omega)).1 rfl⟩
    ·rw [if_pos (wantB_spec hw ha)]
     refine .inl (hop a ha _ _ fun v w' hp=>?_)
     obtain ⟨k1,k2⟩:=hk v w' hp
     exact ⟨k1,(TT.sound hq s true _ _ w' _ f' h2 k2 (ha.putL hft v) (by omega)).1 rfl⟩
   ·exact (TT.sound hq t false l L w a f h3 ht ha (by omega)).2 f' hf' j hj
  refine ⟨fun hb=>?_,hs⟩
  subst hb
  obtain ⟨f',rfl⟩:∃ f',f=f'+1:=⟨f - 1,by omega⟩
  have hr:Region.ready .any ops l=i ::t.heads:=by simpa using h1
  exact wpAnyLast_all hr (by simp [OT.heads]) (hs f' rfl)
theorem WC.drawT {id:Nat} {M:Nat->Prop} (C:Nat->Prop) (st:List Stp) (ds:List Nat) (t:OT) (hm:P.follows .mixedOrders=true) (hq:PanicQ Q) (hs:ops.size=cnt st+t.depth) (hc:chkR ops ds (fun l=>chkTr ops true l t) [] [] st=true) (hM:∀ b,M b->b<w.heap.size)
  (h:∀ w1,Below w.heap.size w w1->DR P ops Q ds (TT P ops Q ds C w1 n true t) C w1 n st [] (fun _=>False) L w1 M):WC P (.region id ops true) Q n L w:=
 WC.drawE (E:=fun w1=>TT P ops Q ds C w1 n true t) (ce:=fun l=>chkTr ops true l t) (tl:=t.depth) C st ds hm hq hs hc (fun w0 l L w a hc h ha=>(TT.sound hq t true l L w a _ hc h ha (Nat.le_refl _)).1 rfl) hM h
theorem TT.one (h:TD P ops Q ds C w0 n i (TT P ops Q ds C w0 n true u) L w):TT P ops Q ds C w0 n true (.c i u .e) L w:=⟨h,fun h=>by cases h⟩
theorem TT.fst (h:TD P ops Q ds C w0 n i (TT P ops Q ds C w0 n true u) L w) (k:TT P ops Q ds C w0 n false t L w) {b:Bool} :TT P ops Q ds C w0 n b (.c i u t) L w:=⟨h,k⟩
theorem TT.last (h:TD P ops Q ds C w0 n i (TT P ops Q ds C w0 n true u) L w):TT P ops Q ds C w0 n false (.c i u .e) L w:=⟨h,fun h=>by cases h⟩
theorem TT.nil (h:∀ a,Fr n L a->Q .normal a w):TT P ops Q ds C w0 n true .e L w:=fun _=>h
variable {K:List (Nat×Value)->World->Prop}
theorem TD.val (hi:ops[i]? =some o) (hw:wantB ops L o=some true) (hd:o.dst=some d) (hn:Nat.blt d n=true) (h:OpV P o n L w v) (k:K ((d,v) ::L) w):TD P ops Q ds C w0 n i K L w:=
 ⟨o,hi,by rw [hd];exact hn,.inr ⟨hw,_,OpV.c h,fun u w' hp=>by obtain ⟨rfl,rfl⟩:=hp;exact ⟨fun _ h=>h,by rw [hd];exact k⟩⟩⟩
theorem TD.s {post:Value->World->Prop} (hi:ops[i]? =some o) (hw:wantB ops L o=some true) (hd:o.dst=none) (hm:ds.contains i=true) (h:OpC P o n L w post) (k:∀ v w',post v w'->K L w'):TD P ops Q ds C w0 n i K L w:=
 ⟨o,hi,by rw [hd];rfl,.inr ⟨hw,post,h,fun v w' hp=>⟨fun hn=>absurd (List.contains_iff_mem.1 hm) hn,by rw [hd];exact k v w' hp⟩⟩⟩
theorem TD.c {post:Value->World->Prop} (hi:ops[i]? =some o) (hw:wantB ops L o=some true) (hd:o.dst=some d) (hn:Nat.blt d n=true) (hm:ds.contains i=true) (h:OpC P o n L w post) (k:∀ v w',post v w'->K ((d,v) ::L) w'):TD P ops Q ds C w0 n i K L w:=
 ⟨o,hi,by rw [hd];exact hn,.inr ⟨hw,post,h,fun v w' hp=>⟨fun hn=>absurd (List.contains_iff_mem.1 hm) hn,by rw [hd];exact k v w' hp⟩⟩⟩
theorem TD.cs {post:Value->World->Prop} (hi:ops[i]? =some o) (hw:wantB ops L o=some true) (hd:o.dst=some d) (hn:Nat.blt d n=true) (h:OpC P o n L w post) (k:∀ v w',post v w'->(Chg w0 w C->Chg w0 w' C)/\K ((d,v) ::L) w'):TD P ops Q ds C w0 n i K L w:=
 ⟨o,hi,by rw [hd];exact hn,.inr ⟨hw,post,h,fun v w' hp=>⟨fun _=>(k v w' hp).1,by rw [hd];exact (k v w' hp).2⟩⟩⟩
end
end Go.Proofs.YtlmpoindlejefaaGreat.E
namespace Go.Proofs.YtlmpoindlejefaaGreat.E
open Go Go.RowKit Go.Proofs.YtlmpoindlejefaaGreatW.PrintLast
end Go.Proofs.YtlmpoindlejefaaGreat.E
namespace Go.Proofs.YtlmpoindlejefaaGreat.E
open Go Go.RowKit Go.Proofs.YtlmpoindlejefaaGreatW.PrintLast
def Kd.clo2 {α β:Type} (f:FuncId) (a:Kd α) (b:Kd β):Kd (α×β) where
 sz:=1
 R M w x cs:=∃ b1 b2 c1 c2,cs= [.func (.func f) #[] #[.pointer (some ⟨b1,0,none⟩),.pointer (some ⟨b2,0,none⟩)]]/\Bx M w b1 c1/\a.R M w x.1 c1/\Bx M w b2 c2/\b.R M w x.2 c2
 len h:=by obtain ⟨b1,b2,c1,c2,rfl,_⟩:=h;rfl
 one h u hu:=by obtain ⟨b1,b2,c1,c2,rfl,_⟩:=h;rw [List.mem_singleton.1 hu];rfl
 to h k:=by obtain ⟨b1,b2,c1,c2,rfl,h1,h2,h3,h4⟩:=h;exact ⟨b1,b2,c1,c2,rfl,h1.to k,a.to h2 k,h3.to k,b.to h4 k⟩
theorem Kd.clo2_o {α β:Type} {f:FuncId} {a:Kd α} {b:Kd β} {M:Nat->Prop} {w:World} {x:α×β} {v:Value} (h:(Kd.clo2 f a b).R M w x [v]):∃ b1 b2 c1 c2,v= .func (.func f) #[] #[.pointer (some ⟨b1,0,none⟩),.pointer (some ⟨b2,0,none⟩)]/\Bx M w b1 c1/\a.R M w x.1 c1/\Bx M w b2 c2/\b.R M w x.2 c2:=by
 obtain ⟨b1,b2,c1,c2,hq,h⟩:=h
 exact ⟨b1,b2,c1,c2,(List.cons.inj hq).1,h⟩
end Go.Proofs.YtlmpoindlejefaaGreat.E
namespace Go.Proofs.YtlmpoindlejefaaGreat.E
open Go Go.RowKit Go.Proofs.YtlmpoindlejefaaGreatW.PrintLast
def rgn (id:Nat):Code->Array Oper
 | .seq a b=>let x:=rgn id a;if x.isEmpty then rgn id b else x
 | .region i ops _=>if i=id then ops else #[]
 | .cond _ a b=>let x:=rgn id a;if x.isEmpty then rgn id b else x
 | .loop a=>rgn id a
 | .block _ a=>rgn id a
 | _=>#[]
def opsF (id:Nat) (f:Func):Array Oper:=rgn id (f.body.getD .skip)
variable {ops:Array Oper} {ds:List Nat} {ce:Array Bool->Bool} {lc pend:List Nat} {i:Nat} {r:List Stp}
theorem ch_take (h:(Region.noSelect ops && Nat.blt i ops.size && ((subs pend).all fun s=>let l:=arr ops.size lc s;Region.free .any ops l i && (Region.ready .any ops l).contains i && Region.closedB .any ops l && Region.lastB .any ops l ds i))=true) (k:chkR ops ds ce (i ::lc) pend r=true):chkR ops ds ce lc pend (.take i ::r)=true:=by
 rw [chkR,h,k];rfl
theorem ch_call (h:(!(ds.contains i) && Nat.blt i ops.size && ((subs pend).all fun s=>let l:=Region.ready .any ops (arr ops.size lc s);l.contains i && l.all fun j=>Nat.beq j i || (without s pend).contains j))=true) (k:chkR ops ds ce (i ::lc) pend r=true):chkR ops ds ce lc pend (.call i ::r)=true:=by
 rw [chkR,h,k];rfl
end Go.Proofs.YtlmpoindlejefaaGreat.E
