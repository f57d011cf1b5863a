/- Joined. -/
import Derived.Test.YtbjnmmgnonldnaaKE10
import Derived.Maps.Keyed
import Derived.Carry
import Derived.Scope
set_option linter.unusedVariables false
set_option linter.unusedSectionVars false
set_option linter.unusedSimpArgs false
namespace Go.Proofs.Ytbjnmmgnonldnaa.E
open Go Go.RowKit
section
variable {Wr Wr' Wf M M' M0 C:Nat->Prop} {w w' w0:World} {b:Nat} {f:Int->Bool}
variable {P:Program} {o:Oper} {n:Nat} {L:List (Nat×Value)} {T kt vt:TypeId} {x y z:Operand} {k:Int} {v:Bool}
end
end Go.Proofs.Ytbjnmmgnonldnaa.E
namespace Go.Proofs.Ytbjnmmgnonldnaa.E
open Go Go.RowKit
abbrev I6 (n:Int):Value:=.int .i64 n
theorem dT {p:Prop} [Decidable p] (h:p):decide p=true:=decide_eq_true h
theorem dF {p:Prop} [Decidable p] (h: ¬ p):decide p=false:=decide_eq_false h
theorem nB {a b:Nat} (h:Nat.ble a b=true):a<=b:=Nat.le_of_ble_eq_true h
theorem wB {α β:Type} {m:W α} {f:α->W β} {p:β->Prop} (h:(W.bind m f).run p):m.run fun a=>(f a).run p:=h
theorem wR {α:Type} {c:Prop} {m:W α} {p:α->Prop} (h:(W.req c m).run p):c/\m.run p:=h
theorem fA {n:Nat} {X:Nat->Prop} :∀ b,b<n->n<=b->X b:=fun _ hb h=>absl hb h
theorem fJ {p:Prop} (h:p):p:=h
theorem aR {w:World} {b:Nat} {cs:Array Value} {t:TypeId} {fr:Nat×Nat} (h:w.heap[b]? =some (.cells cs t fr)):At w b 0 cs.toList:=At.of_row h
theorem dS {A B:Nat->Prop} (h:Dis A B):Dis B A:=h.symm
theorem bq {α:Type} {c:Prop} {i:Decidable c} {a b:W α} {p:α->Prop} (H:(@ite _ c i a b).run p):c/\a.run p\/¬ c/\b.run p:=by
 by_cases h:c
 ·exact .inl ⟨h,by rwa [if_pos h] at H⟩
 ·exact .inr ⟨h,by rwa [if_neg h] at H⟩
theorem sa {k:IntKind} {x:Int} (h:InK k x:=by first | omega | (dsimp only;omega) | simp [InK]):InK k x:=h
theorem Step.t {M M' M'':Nat->Prop} {w w' w'':World} (h:Step M w M' w') (k:Step M' w' M'' w''):Step M w M'' w'':=Step.trans h k
theorem sB {Wr M0 M:Nat->Prop} {w0 w w':World} (h:St Wr w0 M0 w M) (k:Below w.heap.size w w'):St Wr w0 M0 w' M/\Step M w M w':=⟨h.below k,Step.below k⟩
section
variable {P:Program} {L:List (Nat×Value)} {w:World} {x:Tmp} {v:Value}
theorem rv (h:lk L x=some v):RV P L w (.tmp x) v:=RV.tmp h
end
end Go.Proofs.Ytbjnmmgnonldnaa.E
namespace Go.Proofs.Ytbjnmmgnonldnaa.E
open Go Go.RowKit
abbrev sn:Value:=.slice none 0 0
abbrev pq (b:Nat):Value:=.pointer (some ⟨b,0,none⟩)
theorem ixb {a b:Prop} (h:a) (e:a->b:=by first | exact fun h=>h | (intro h;(try simp only [List.length_set] at h |-);first | exact h | omega)):b:=e h
section
variable {P:Program} {ops:Array Oper} {Q:Exit->Act->World->Prop} {rest:List Oper} {n:Nat} {L:List (Nat×Value)} {w w0:World} {o o1 o2 o3:Oper} {d:Nat} {v u:Value} {x y z:Operand} {T T' e:TypeId} {k:IntKind} {t:TypeDesc} {Wf Wr M M0:Nat->Prop} {b:Nat} {cs:Array Value}
theorem xm (ho:o.op= .move x:=by rfl) (hx:ev L x=some v:=by rfl) (hw:wantB ops L o=some true:=by rfl) (hd:o.dst=some d:=by rfl) (hn:Nat.blt d n=true:=by rfl) (k:WL P ops Q rest n ((d,v) ::L) w):WL P ops Q (o ::rest) n L w:=va (o_mv ho hx) k hw hd hn
theorem xs (ho:o.op= .assign x:=by rfl) (hx:ev L x=some v:=by rfl) (hw:wantB ops L o=some true:=by rfl) (hd:o.dst=some d:=by rfl) (hn:Nat.blt d n=true:=by rfl) (k:WL P ops Q rest n ((d,v) ::L) w):WL P ops Q (o ::rest) n L w:=va (o_as ho hx) k hw hd hn
theorem xe {vs:Array Value} {i:Nat} (ho:o.op= .extract x i:=by rfl) (hx:ev L x=some (.tuple vs):=by rfl) (hv:vs[i]? =some v:=by rfl) (hw:wantB ops L o=some true:=by rfl) (hd:o.dst=some d:=by rfl) (hn:Nat.blt d n=true:=by rfl) (k:WL P ops Q rest n ((d,v) ::L) w):WL P ops Q (o ::rest) n L w:=va (o_ex ho hx hv) k hw hd hn
theorem xf (ho:o.op= .pick x y z:=by rfl) (hx:ev L x=some (.bool false):=by rfl) (hy:ev L z=some v:=by rfl) (hw:wantB ops L o=some true:=by rfl) (hd:o.dst=some d:=by rfl) (hn:Nat.blt d n=true:=by rfl) (k:WL P ops Q rest n ((d,v) ::L) w):WL P ops Q (o ::rest) n L w:=va (o_pkf ho hx hy) k hw hd hn
theorem xw (h1:wantB ops L o1=some false:=by rfl) (n1:fits o1.dst n=true:=by rfl) (h2:wantB ops (putL o1.dst undef L) o2=some false:=by rfl) (n2:fits o2.dst n=true:=by rfl) (h3:wantB ops (putL o2.dst undef (putL o1.dst undef L)) o3=some false:=by rfl) (n3:fits o3.dst n=true:=by rfl) (k:WL P ops Q rest n (putL o3.dst undef (putL o2.dst undef (putL o1.dst undef L))) w):WL P ops Q (o1 ::o2 ::o3 ::rest) n L w:=xo h1 n1 (xo h2 n2 (xo h3 n3 k))
theorem la {b off:Nat} (hu:P.underlying T=some t) (hc:w.cell? ⟨b,off,none⟩ =some v) (ho:o.op= .load T x:=by rfl) (hd:isAgg t=false:=by rfl) (hx:ev L x=some (.pointer (some ⟨b,off,none⟩)):=by rfl):OpV P o n L w v:=o_ld1 ho hu hd hx hc
theorem ln {b off:Nat} {cs:List Value} (hu:P.underlying T=some t) (hs:(P.info? T).map (·.size)=some cs.length) (hc:At w b off cs) (ho:o.op= .load T x:=by rfl) (hd:isAgg t=true:=by rfl) (hx:ev L x=some (.pointer (some ⟨b,off,none⟩)):=by rfl):OpV P o n L w (.agg cs.toArray):=o_ldn ho hu hd hs hx hc
theorem fa_ {i b off s:Nat} {fs:Array Field} {f:Field} (hu:P.underlying T=some (.struct fs)) (hs:(P.info? T').map (·.size)=some (s+1)) (ho:o.op= .fieldAddr T x i:=by rfl) (hf:fs[i]? =some f:=by rfl) (hx:ev L x=some (.pointer (some ⟨b,off,none⟩)):=by rfl) (ht:f.type=T':=by rfl):OpV P o n L w (.pointer (some ⟨b,off+f.offset,none⟩)):=o_fa ho hu hf (ht ▸ hs) hx
theorem iA {b off m c s:Nat} {A:Option Addr} {i:Int} (hu:P.underlying T=some (.slice e)) (hs:(P.info? e).map (·.size)=some s) (hA:A=some ⟨b,off,none⟩) (h:0<=i/\i<m) (ho:o.op= .indexAddr T x y:=by rfl) (hx:ev L x=some (.slice A m c):=by rfl) (hy:ev L y=some (.int k i):=by rfl):OpV P o n L w (.pointer (some ⟨b,off+i.toNat*s,none⟩)):=o_iaA ho hu hs hx hA hy h.1 h.2
theorem iV {b off m c s:Nat} {i:Int} (hu:P.underlying T=some (.slice e)) (hs:(P.info? e).map (·.size)=some s) (hv:v= .slice (some ⟨b,off,none⟩) m c) (h:0<=i/\i<m) (ho:o.op= .indexAddr T x y:=by rfl) (hx:ev L x=some v:=by rfl) (hy:ev L y=some (.int k i):=by rfl):OpV P o n L w (.pointer (some ⟨b,off+i.toNat*s,none⟩)):=o_iaV ho hu hs hx hv hy h.1 h.2
theorem stp {off:Nat} (ho:o.op= .store T x y) (hx:ev L x=some (.pointer (some ⟨b,off,none⟩))) (hy:ev L y=some u) (hs:(P.info? T).map (·.size)=some u.cells.size) {T':TypeId} (h1:∀ z ∈ u.cells.toList,z.oneCell'=true) (hb:Mb Wf M w b T' cs) (hW:∀ b,Wf b->Wr b) (hS:St Wr w0 M0 w M) (hl:off+u.cells.size<=cs.size:=by exact nB rfl):OpC P o n L w (fun _ w'=>Mb Wf M w' b T' (cs.toList.take off ++ u.cells.toList ++ cs.toList.drop (off+u.cells.toList.length)).toArray/\St Wr w0 M0 w' M/\Step M w M w'/\w.grownBy w' (some b)):=o_stpW ho hx hy hs hl h1 hb hW hS
end
end Go.Proofs.Ytbjnmmgnonldnaa.E
namespace Go.Proofs.Ytbjnmmgnonldnaa.E
open Go Go.RowKit
section
variable {P:Program} {o:Oper} {n:Nat} {L:List (Nat×Value)} {w:World} {x y:Operand} {T e:TypeId} {k k':IntKind} {Wr M:Nat->Prop} {α:Type} {a:Kd α}
end
section
variable {Wr M M1:Nat->Prop} {w w1 w2:World} {α:Type} {a:Kd α} {e1 e2:TypeId} {v u:Value} {us:List Value} {xss:List (List α)} {i:Int}
end
section
variable {P:Program} {ops:Array Oper} {Q:Exit->Act->World->Prop} {ds tail:List Nat} {E:List (Nat×Value)->World->Prop} {C:Nat->Prop} {w0 w:World} {n i:Nat} {r:List Stp} {pend:List Late} {had:Nat->Prop} {L:List (Nat×Value)} {M:Nat->Prop}
end
end Go.Proofs.Ytbjnmmgnonldnaa.E
namespace Go.Proofs.Ytbjnmmgnonldnaa.E
open Go Go.RowKit
section
variable {P:Program} {o:Oper} {n:Nat} {L:List (Nat×Value)} {w:World} {x y:Operand} {T e:TypeId} {k k' k'':IntKind} {Wr M N:Nat->Prop} {α:Type} {a:Kd α} {xs:List α}
theorem o_slt3 {A:Option Addr} {m c:Nat} {j g:Int} {hi mx:Operand} (ho:o.op= .slice T x none (some hi) (some mx)) (hu:P.underlying T=some (.slice e)) (hx:ev L x=some (.slice A m c)) (hhi:ev L hi=some (.int k j)) (hmx:ev L mx=some (.int k' g)) (hc:m<=c) (h0:0<=j) (h2:j<=g) (h3:g<=m) {q s:Nat} (hq:q=j.toNat) (hs:(P.info? e).map (·.size)=some s) :
  OpV P o n L w (.slice A q g.toNat):=fun act ha=>by
 obtain ⟨inf,hinf,hz⟩:=Option.map_eq_some_iff.1 hs
 subst hq
 have b1:(Instr.sliceBound (.int k' g) c .slice3Acap).run P w= .ok g.toNat w:=run_sliceBound w k' g c _ (by omega) (by omega)
 have b2:(Instr.sliceBound (.int k j) g.toNat .slice3B).run P w= .ok j.toNat w:=run_sliceBound w k j g.toNat _ h0 (by omega)
 simp only [execOp,ho,ha.ev hx,Option.map_some,ha.ev hhi,ha.ev hmx,Instr.sliceAt,Option.map_none,Sem.run_bind,run_underlying hu,Result.andThen_ok,Instr.slice,Instr.sliceBounds,Sem.run_pure,b1,b2,if_true,sizeOf,typeInfo,run_program,hinf,Nat.sub_zero,Nat.zero_mul]
 cases A <;> simp [Addr.add]
end
section
variable {P:Program} {w:World}
end
section
variable {P:Program} {o:Oper} {n:Nat} {L:List (Nat×Value)} {w w0:World} {x y:Operand} {T T' e:TypeId} {Wr Wf M M0:Nat->Prop} {α:Type} {a:Kd α} {k kk:IntKind}
end
end Go.Proofs.Ytbjnmmgnonldnaa.E
namespace Go.Proofs.Ytbjnmmgnonldnaa.E
open Go Go.RowKit
theorem o_fn {P:Program} {o:Oper} {n:Nat} {L:List (Nat×Value)} {w:World} {f:FuncId} {fs cs:List Operand} {us vs:List Value} (ho:o.op= .makeFunc (.func f) fs.toArray cs.toArray) (h1:evs L fs=some us) (h2:evs L cs=some vs):OpV P o n L w (.func (.func f) us.toArray vs.toArray):=fun a ha=>by
 simp only [execOp,ho,Sem.run_bind,Instr.makeFunc,Sem.run_pure,Result.andThen_ok,List.map_toArray,Act.eval]
 rw [ha.evs h1,ha.evs h2]
theorem o_callC {P:Program} {o:Oper} {n:Nat} {L:List (Nat×Value)} {w:World} {c:Call} {f:FuncId} {x:Operand} {xs:List Operand} {us vs cs ws:List Value} {post:Value->World->Prop} (ho:o.op= .call c) (hc:c.callee= .value x) (hx:ev L x=some (.func (.func f) us.toArray cs.toArray)) (has:c.args=xs.toArray) (hv:evs L xs=some vs) (hf:callable P f=true) (he:us ++ vs ++ cs=ws)
  (h:Calls P f ws.toArray w (fun e w'=>∃ v,e= .returned v/\post v w')):OpC P o n L w post:=fun a ha K Q hK=>by
 have hr:(execOp a.eval o).run P w= .ok (.enter f ws.toArray) w:=by
  simp only [execOp,ho,Sem.run_bind,resolve,hc,has,ha.ev hx,Deferred.ofValue,Sem.run_pure,Result.andThen_ok,invoke]
  have:(xs.toArray.map a.eval)=vs.toArray:=by rw [List.map_toArray,ha.evs hv]
  simp only [this]
  rw [show (us.toArray ++ vs.toArray ++ cs.toArray:Array Value)=ws.toArray by rw [<- he];simp]
  exact callFunc_run hf _ _
 unfold Oper.wp
 rw [hr,Oper.upon_enter]
 refine Calls.mono h fun e w' he=>?_
 obtain ⟨v,rfl,hp⟩:=he
 exact hK v w' hp
theorem Mb.freeze {Wr M M0:Nat->Prop} {w w0:World} {b:Nat} {T:TypeId} {cs:Array Value} (hS:St Wr w0 M0 w M) (h:Mb (fun b=>w0.heap.size<=b) M w b T cs) (hM:∀ b,M0 b->b<w0.heap.size) :
  ∃ M',St Wr w0 M0 w M'/\Step M w M' w/\(∀ c,M c->¬ Bb b c->M' c)/\(∀ c,M' c->M c)/\Bx M' w b cs.toList:=by
 have hst:Step M w (fun c=>M c/\¬ Bb b c) w:=Step.weak fun b hb=>hb.1
 refine ⟨fun c=>M c/\¬ Bb b c,⟨hS.eff,hS.step.trans hst,fun c hc=>⟨hS.inc c hc,fun hg=>?_⟩,fun c hc=>hS.lt c hc.1⟩,hst,fun c h1 h2=>⟨h1,h2⟩,fun c hc=>hc.1,⟨fun hm=>hm.2 rfl,h.lt,At.of_row h.row⟩⟩
 have h1:=h.wr
 have h2:=hM c hc
 rw [show c=b from hg] at h2
 omega
end Go.Proofs.Ytbjnmmgnonldnaa.E
namespace Go.Proofs.Ytbjnmmgnonldnaa.E
open Go Go.RowKit Go.Proofs.YtbjnmmgnonldnaaW.PrintLast
inductive OT where
 | e
 | c (i:Nat) (s a:OT)
def OT.heads:OT->List Nat
 | .e=>[]
 | .c i _ a=>i ::a.heads
def OT.depth:OT->Nat
 | .e=>0
 | .c _ s a=>max (s.depth+1) a.depth
def chkTr (ops:Array Oper):Bool->Array Bool->OT->Bool
 | b,l,.e=>!b || Region.ready .any ops l == []
 | b,l,.c i s a=>(!b || Region.ready .any ops l == i ::a.heads) && chkTr ops true (l.setIfInBounds i true) s && chkTr ops false l a
section
variable {P:Program} {ops:Array Oper} {Q:Exit->Act->World->Prop} {n i d:Nat} {ds:List Nat} {w0:World} {C:Nat->Prop} {L:List (Nat×Value)} {w:World} {o:Oper} {v:Value} {u t:OT}
def TD (P:Program) (ops:Array Oper) (Q:Exit->Act->World->Prop) (ds:List Nat) (C:Nat->Prop) (w0:World) (n i:Nat) (K:List (Nat×Value)->World->Prop) (L:List (Nat×Value)) (w:World):Prop:=
 ∃ o,ops[i]? =some o/\fits o.dst n=true/\((wantB ops L o=some false/\K (putL o.dst undef L) w)\/(wantB ops L o=some true/\∃ post,OpC P o n L w post/\∀ v w',post v w'->(i ∉ ds->Chg w0 w C->Chg w0 w' C)/\K (putL o.dst v L) w'))
def TT (P:Program) (ops:Array Oper) (Q:Exit->Act->World->Prop) (ds:List Nat) (C:Nat->Prop) (w0:World) (n:Nat):Bool->OT->List (Nat×Value)->World->Prop
 | b,.e,L,w=>b=true->∀ a,Fr n L a->Q .normal a w
 | _,.c i s a,L,w=>TD P ops Q ds C w0 n i (TT P ops Q ds C w0 n true s) L w/\TT P ops Q ds C w0 n false a L w
theorem TT.sound (hq:PanicQ Q):∀ (t:OT) (b:Bool) (l:Array Bool) (L:List (Nat×Value)) (w:World) (a:Act) (f:Nat),chkTr ops b l t=true->TT P ops Q ds C w0 n b t L w->Fr n L a->t.depth<=f->
  (b=true->wpAnyLast P .any ops Q (fun w'=>Chg w0 w' C) ds f l a w)/\∀ f',f=f'+1->∀ j ∈ t.heads,wpOp P ops Q j (fun a' w'=>(j ∉ ds->Chg w0 w C->Chg w0 w' C)/\wpAnyLast P .any ops Q (fun w'=>Chg w0 w' C) ds f' (l.setIfInBounds j true) a' w') a w
 | .e,b,l,L,w,a,f,hc,h,ha,hf=>by
  refine ⟨fun hb=>?_,fun f' _ j hj=>by simp [OT.heads] at hj⟩
  subst hb
  exact wpAnyLast_done (by simpa [chkTr] using hc) (h rfl a ha) _
 | .c i s t,b,l,L,w,a,f,hc,h,ha,hf=>by
  simp only [chkTr,Bool.and_eq_true] at hc
  obtain ⟨⟨h1,h2⟩,h3⟩:=hc
  obtain ⟨hd,ht⟩:=h
  simp only [OT.depth] at hf
  have hs:∀ f',f=f'+1->∀ j ∈ (OT.c i s t).heads,wpOp P ops Q j (fun a' w'=>(j ∉ ds->Chg w0 w C->Chg w0 w' C)/\wpAnyLast P .any ops Q (fun w'=>Chg w0 w' C) ds f' (l.setIfInBounds j true) a' w') a w:=by
   intro f' hf' j hj
   rcases List.mem_cons.1 hj with rfl | hj
   ·obtain ⟨o,hi,hft,hk⟩:=hd
    unfold wpOp
    simp only [hi]
    rcases hk with ⟨hw,hk⟩ | ⟨hw,post,hop,hk⟩
    ·rw [if_neg (by rw [wantB_spec hw ha];simp)]
     exact ⟨fun _ h=>h,(TT.sound hq s true _ _ w _ f' h2 hk (ha.putL hft undef) (by omega)).1 rfl⟩
    ·rw [if_pos (wantB_spec hw ha)]
     refine .inl (hop a ha _ _ fun v w' hp=>?_)
     obtain ⟨k1,k2⟩:=hk v w' hp
     exact ⟨k1,(TT.sound hq s true _ _ w' _ f' h2 k2 (ha.putL hft v) (by omega)).1 rfl⟩
   ·exact (TT.sound hq t false l L w a f h3 ht ha (by omega)).2 f' hf' j hj
  refine ⟨fun hb=>?_,hs⟩
  subst hb
  obtain ⟨f',rfl⟩:∃ f',f=f'+1:=⟨f - 1,by omega⟩
  have hr:Region.ready .any ops l=i ::t.heads:=by simpa using h1
  exact wpAnyLast_all hr (by simp [OT.heads]) (hs f' rfl)
theorem WC.drawT {id:Nat} {M:Nat->Prop} (C:Nat->Prop) (st:List Stp) (ds:List Nat) (t:OT) (hm:P.follows .mixedOrders=true) (hq:PanicQ Q) (hs:ops.size=cnt st+t.depth) (hc:chkR ops ds (fun l=>chkTr ops true l t) [] [] st=true) (hM:∀ b,M b->b<w.heap.size)
  (h:∀ w1,Below w.heap.size w w1->DR P ops Q ds (TT P ops Q ds C w1 n true t) C w1 n st [] (fun _=>False) L w1 M):WC P (.region id ops true) Q n L w:=
 WC.drawE (E:=fun w1=>TT P ops Q ds C w1 n true t) (ce:=fun l=>chkTr ops true l t) (tl:=t.depth) C st ds hm hq hs hc (fun w0 l L w a hc h ha=>(TT.sound hq t true l L w a _ hc h ha (Nat.le_refl _)).1 rfl) hM h
theorem TT.one (h:TD P ops Q ds C w0 n i (TT P ops Q ds C w0 n true u) L w):TT P ops Q ds C w0 n true (.c i u .e) L w:=⟨h,fun h=>by cases h⟩
theorem TT.fst (h:TD P ops Q ds C w0 n i (TT P ops Q ds C w0 n true u) L w) (k:TT P ops Q ds C w0 n false t L w) {b:Bool} :TT P ops Q ds C w0 n b (.c i u t) L w:=⟨h,k⟩
theorem TT.last (h:TD P ops Q ds C w0 n i (TT P ops Q ds C w0 n true u) L w):TT P ops Q ds C w0 n false (.c i u .e) L w:=⟨h,fun h=>by cases h⟩
theorem TT.nil (h:∀ a,Fr n L a->Q .normal a w):TT P ops Q ds C w0 n true .e L w:=fun _=>h
variable {K:List (Nat×Value)->World->Prop}
theorem TD.val (hi:ops[i]? =some o) (hw:wantB ops L o=some true) (hd:o.dst=some d) (hn:Nat.blt d n=true) (h:OpV P o n L w v) (k:K ((d,v) ::L) w):TD P ops Q ds C w0 n i K L w:=
 ⟨o,hi,by rw [hd];exact hn,.inr ⟨hw,_,OpV.c h,fun u w' hp=>by obtain ⟨rfl,rfl⟩:=hp;exact ⟨fun _ h=>h,by rw [hd];exact k⟩⟩⟩
theorem TD.s {post:Value->World->Prop} (hi:ops[i]? =some o) (hw:wantB ops L o=some true) (hd:o.dst=none) (hm:ds.contains i=true) (h:OpC P o n L w post) (k:∀ v w',post v w'->K L w'):TD P ops Q ds C w0 n i K L w:=
 ⟨o,hi,by rw [hd];rfl,.inr ⟨hw,post,h,fun v w' hp=>⟨fun hn=>absurd (List.contains_iff_mem.1 hm) hn,by rw [hd];exact k v w' hp⟩⟩⟩
theorem TD.c {post:Value->World->Prop} (hi:ops[i]? =some o) (hw:wantB ops L o=some true) (hd:o.dst=some d) (hn:Nat.blt d n=true) (hm:ds.contains i=true) (h:OpC P o n L w post) (k:∀ v w',post v w'->K ((d,v) ::L) w'):TD P ops Q ds C w0 n i K L w:=
 ⟨o,hi,by rw [hd];exact hn,.inr ⟨hw,post,h,fun v w' hp=>⟨fun hn=>absurd (List.contains_iff_mem.1 hm) hn,by rw [hd];exact k v w' hp⟩⟩⟩
theorem TD.cs {post:Value->World->Prop} (hi:ops[i]? =some o) (hw:wantB ops L o=some true) (hd:o.dst=some d) (hn:Nat.blt d n=true) (h:OpC P o n L w post) (k:∀ v w',post v w'->(Chg w0 w C->Chg w0 w' C)/\K ((d,v) ::L) w'):TD P ops Q ds C w0 n i K L w:=
 ⟨o,hi,by rw [hd];exact hn,.inr ⟨hw,post,h,fun v w' hp=>⟨fun _=>(k v w' hp).1,by rw [hd];exact (k v w' hp).2⟩⟩⟩
end
end Go.Proofs.Ytbjnmmgnonldnaa.E
namespace Go.Proofs.Ytbjnmmgnonldnaa.E
open Go Go.RowKit Go.Proofs.YtbjnmmgnonldnaaW.PrintLast
end Go.Proofs.Ytbjnmmgnonldnaa.E
namespace Go.Proofs.Ytbjnmmgnonldnaa.E
open Go Go.RowKit Go.Proofs.YtbjnmmgnonldnaaW.PrintLast
end Go.Proofs.Ytbjnmmgnonldnaa.E
namespace Go.Proofs.Ytbjnmmgnonldnaa.E
open Go Go.RowKit Go.Proofs.YtbjnmmgnonldnaaW.PrintLast
variable {ops:Array Oper} {ds:List Nat} {ce:Array Bool->Bool} {lc pend:List Nat} {i:Nat} {r:List Stp}
end Go.Proofs.Ytbjnmmgnonldnaa.E
namespace Go.Proofs.Ytbjnmmgnonldnaa.E
open Go Go.RowKit
variable {P:Program} {Q:Exit->Act->World->Prop} {n:Nat} {L:List (Nat×Value)} {w:World}
theorem WC.cutS {x:Code} (Mid:Act->World->Prop) (h:WC P x (Exit.then Mid Q) n L w) (k:∀ a w,Mid a w->Q .normal a w):WC P x Q n L w:=fun a ha=>
 Code.wp_mono (fun e a w he=>by cases e <;> first | exact k _ _ he | exact he) (h a ha)
theorem WN.start {a:Act} (ha:Fr n L a) (h:∀ a,Fr n L a->Q .normal a w):Q .normal a w:=h a ha
end Go.Proofs.Ytbjnmmgnonldnaa.E
namespace Go.Proofs.Ytbjnmmgnonldnaa.E
open Go Go.RowKit Go.Proofs.YtbjnmmgnonldnaaW.PrintLast
section
variable {P:Program} {o:Oper} {n:Nat} {L:List (Nat×Value)} {w w0:World} {x y:Operand} {T e:TypeId} {Wr Wf M M0:Nat->Prop} {k:IntKind}
theorem o_iaR {b off s N:Nat} {i:Int} (ho:o.op= .indexAddr T x y) (hu:P.underlying T=some (.array N e)) (hs:(P.info? e).map (·.size)=some s) (hx:ev L x=some (.pointer (some ⟨b,off,none⟩))) (hy:ev L y=some (.int k i)) (h0:0<=i) (h1:i<N) :
  OpV P o n L w (.pointer (some ⟨b,off+i.toNat*s,none⟩)):=fun a ha=>by
 obtain ⟨inf,hi,hz⟩:=Option.map_eq_some_iff.1 hs
 simp only [execOp,ho,ha.ev hx,ha.ev hy,Instr.indexAt,asIntOf,Instr.sureAddr,Sem.run_bind,Sem.run_pure,Result.andThen_ok,run_underlying hu]
 have hadd:(⟨b,off,none⟩:Addr).add (i.toNat*s)= ⟨b,off+i.toNat*s,none⟩:=by unfold Addr.add;split <;> simp_all
 simp [h0,h1,sizeOf,typeInfo,hi,hz,hadd]
end
section
variable {α:Type} {a:Kd α} {Wr X M:Nat->Prop} {w:World} {e:TypeId} {v:Value} {A:Option Addr} {xss:List (List α)}
end
section
variable {P:Program} {Q:Exit->Act->World->Prop} {n:Nat} {L:List (Nat×Value)} {w:World}
theorem PanicQ.noGoto (h:PanicQ Q):PanicQ (Exit.noGoto Q):=fun c a d u w k=>h c a d u w k
instance pq4 [h:PQ Q]:PQ (Exit.noGoto Q):=⟨PanicQ.noGoto h.h⟩
instance ly4 {Q0:Exit->Act->World->Prop} [h:Ly Q Q0]:Ly (Exit.noGoto Q) Q0:=⟨fun a w k=>h.h a w k⟩
end
section
variable {P:Program} {o:Oper} {n:Nat} {L:List (Nat×Value)} {w w0:World} {x y:Operand} {T e:TypeId} {Wr Wf M M0:Nat->Prop} {α:Type} {a:Kd α} {u v:Value}
end
theorem Chg.fresh {w w1 w2:World} {C:Nat->Prop} {b:Nat} (h:Chg w w1 C) (k:w1.grownBy w2 (some b)) (hb:w.heap.size<=b):Chg w w2 C:=⟨Nat.le_trans h.size k.size,fun x hx hn=>(k.block x (Nat.lt_of_lt_of_le hx h.size) (fun e=>by injection e with e;omega)).trans (h.block x hx hn)⟩
end Go.Proofs.Ytbjnmmgnonldnaa.E
namespace Go.Proofs.Ytbjnmmgnonldnaa.E
open Go Go.RowKit
section
variable {P:Program} {ops:Array Oper} {Q:Exit->Act->World->Prop} {ds:List Nat} {E:List (Nat×Value)->World->Prop} {C:Nat->Prop} {w0 w:World} {n d i:Nat} {r:List Stp} {pend:List Late} {had:Nat->Prop} {L:List (Nat×Value)} {M:Nat->Prop} {v:Value}
end
section
variable {P:Program} {o:Oper} {n:Nat} {L:List (Nat×Value)} {w0 w:World} {C:Nat->Prop} {v:Value} {p q:Int} {k:IntKind} {x y z:Operand} {T T':TypeId}
end
section
variable {Wr M0 M:Nat->Prop} {w w' w'':World} {b off:Nat} {cs:List Value}
end
end Go.Proofs.Ytbjnmmgnonldnaa.E
namespace Go.Proofs.Ytbjnmmgnonldnaa.E
open Go Go.RowKit
namespace W
variable {A R:Type} {b:(A->W R)->A->W R}
def iter (b:(A->W R)->A->W R):Nat->A->W R
 | 0=>fun _=>fail
 | n+1=>b (iter b n)
def fix (b:(A->W R)->A->W R) (a:A):W R:=⟨fun p=>∃ n,(iter b n a).run p,fun h ⟨n,k⟩=>⟨n,(iter b n a).mono h k⟩⟩
theorem fix_all {C:(A->W R)->Prop} (h0:C fun _=>fail) (h:∀ rec,C rec->C (b rec)):∀ n,C (iter b n)
 | 0=>h0
 | n+1=>h _ (fix_all h0 h n)
theorem fix_run (μ:A->Nat) {S:A->(R->Prop)->Prop} (h:∀ rec a Q,(∀ a' Q',μ a'<μ a->S a' Q'->(rec a').run Q')->S a Q->(b rec a).run Q) (a:A) (Q:R->Prop) (hS:S a Q):(fix b a).run Q:=by
 have:∀ n a Q,μ a<n->S a Q->(iter b n a).run Q:=fun n=>by
  induction n with
  | zero=>intro a Q h0;omega
  | succ n ih=>exact fun a Q hn hs=>h _ a Q (fun a' Q' hlt hs'=>ih a' Q' (by omega) hs') hs
 exact ⟨_,this _ a Q (Nat.lt_succ_self _) hS⟩
end W
section
variable {P:Program} {o:Oper} {n:Nat} {L:List (Nat×Value)} {w w0:World} {x y:Operand} {T e:TypeId} {Wf M:Nat->Prop} {k:IntKind}
theorem o_iaB {b N:Nat} {i:Int} (ho:o.op= .indexAddr T x y) (hu:P.underlying T=some (.array N e)) (hs:(P.info? e).map (·.size)=some 1) (hx:ev L x=some (.pointer (some ⟨b,0,none⟩))) (hy:ev L y=some (.int k i)) (h0:0<=i) (h1:i<N) :
  OpV P o n L w (.pointer (some ⟨b,i.toNat,none⟩)):=by
 have:=o_iaR ho hu hs hx hy h0 h1 (w:=w) (n:=n)
 rwa [Nat.zero_add,Nat.mul_one] at this
theorem At.dyn {b j:Nat} {cs:List Value} {u:Value} (h:At w b 0 cs) (hu:cs[j]? =some u):w.cell? ⟨b,j,none⟩ =some u:=by
 have:=h.one hu
 rwa [Nat.zero_add] at this
theorem Mb.setA {b:Nat} {cs new:Array Value} (h:Mb Wf M w b T cs) (e:cs=new):Mb Wf M w b T new:=e ▸ h
end
theorem eq_arr2 {P:Program} {w:World} {T e:TypeId} {k:IntKind} {a0 a1 b0 b1:Int} (hu:P.underlying T=some (.array 2 e)) (he:P.underlying e=some (.int k)) (hs:(P.info? e).map (·.size)=some 1) :
  (Op.equalIn 10000 T (.agg #[.int k a0,.int k a1]) (.agg #[.int k b0,.int k b1])).run P w= .ok (decide (a0=b0) && (decide (a1=b1) && true)) w:=by
 obtain ⟨inf,hi,hz⟩:=Option.map_eq_some_iff.1 hs
 have ha:(Go.isAgg e).run P w= .ok false w:=by
  have:=isAgg_run (P:=P) (w:=w) he
  simpa [E.isAgg] using this
 have q:∀ a b:Int,(Op.equalIn 9999 e (.int k a) (.int k b)).run P w= .ok (a == b) w:=fun a b=>by
  rw [run_equalIn_int w 9998 e k k a b he]
 have p0:∀ x y:Int,(part e #[.int k x,.int k y] 0).run P w= .ok (.int k x) w:=fun x y=>by
  simp [part,Sem.run_bind,ha]
 have p1:∀ x y:Int,(part e #[.int k x,.int k y] 1).run P w= .ok (.int k y) w:=fun x y=>by
  simp [part,Sem.run_bind,ha]
 have hr:List.range' 0 2 1= [0,1]:=rfl
 rw [Op.equalIn]
 simp only [Sem.run_bind,run_underlying hu,Result.andThen_ok,sizeOf,typeInfo,run_program,hi,Sem.run_pure,hz,Std.Legacy.Range.forIn_eq_forIn_range',Std.Legacy.Range.size,Nat.sub_zero,Nat.add_sub_cancel,Nat.div_one,hr,List.forIn_cons,List.forIn_nil,Nat.zero_mul,Nat.one_mul,p0,q]
 by_cases c0:a0=b0
 ·subst c0
  by_cases c1:a1=b1
  ·subst c1
   simp [Sem.run_bind,p1,q]
  ·simp [Sem.run_bind,p1,q,c1]
 ·simp [c0]
theorem o_bdA {P:Program} {o:Oper} {n:Nat} {L:List (Nat×Value)} {w:World} {T e:TypeId} {N:Nat} {z:Value} {cells:Array Value} (ho:o.op= .build T #[]) (hu:P.underlying T=some (.array N e)) (hz:(P.info? T).bind (·.zero)=some z) (hs:(P.info? e).map (·.size)=some 1) (hc:z.cells=cells):OpV P o n L w (.agg cells):=fun a ha=>by
 obtain ⟨inf,hi,hz1⟩:=Option.bind_eq_some_iff.1 hz
 obtain ⟨inf2,hi2,hz2⟩:=Option.map_eq_some_iff.1 hs
 subst hc
 simp [execOp,ho,Instr.build,Sem.run_bind,run_underlying hu,Result.andThen_ok,sizeOf,typeInfo,run_program,hi,hi2,Sem.run_pure,hz1,zeroValue,Instr.fill]
section
variable {P:Program} {ops:Array Oper} {Q:Exit->Act->World->Prop} {ds:List Nat} {C:Nat->Prop} {w0 w:World} {n i:Nat} {K:List (Nat×Value)->World->Prop} {L:List (Nat×Value)} {o:Oper}
theorem TD.sf {post:Value->World->Prop} (hi:ops[i]? =some o) (hw:wantB ops L o=some true) (hd:o.dst=none) (h:OpC P o n L w post) (k:∀ v w',post v w'->(Chg w0 w C->Chg w0 w' C)/\K L w'):TD P ops Q ds C w0 n i K L w:=
 ⟨o,hi,by rw [hd];rfl,.inr ⟨hw,post,h,fun v w' hp=>⟨fun _=>(k v w' hp).1,by rw [hd];exact (k v w' hp).2⟩⟩⟩
end
end Go.Proofs.Ytbjnmmgnonldnaa.E
namespace Go.Proofs.Ytbjnmmgnonldnaa.E
open Go Go.RowKit
structure Kq (K V:Type) where
 ek:K->Value
 ev:V->Value
 ok:V->Prop
def kq_ii:Kq Int Int:=⟨fun k=>.int .i64 k,fun v=>.int .i64 v,InK .i64⟩
def kq_ib:Kq Int Bool:=⟨fun k=>.int .i64 k,.bool,fun _=>True⟩
section
variable {K V:Type} [DecidableEq K]
def alook:List (K×V)->K->Option V
 | [],_=>none
 | p ::l,k=>if k=p.1 then some p.2 else alook l k
def aset:List (K×V)->K->V->List (K×V)
 | [],k,v=>[(k,v)]
 | p ::l,k,v=>if k=p.1 then (k,v) ::l else p ::aset l k v
def afind (q:Kq K V):List (K×V)->K->Nat->Option (Nat×Value)
 | [],_,_=>none
 | p ::l,k,i=>if k=p.1 then some (i,q.ev p.2) else afind q l k (i+1)
structure Kq.Ok (P:Program) (kt:TypeId) (q:Kq K V):Prop where
 find:∀ (w:World) (l:List (K×V)) (es:List MapEntry) (k:K),es.map (fun e=>(e.key,e.val))=l.map (fun p=>(q.ek p.1,q.ev p.2))->(Instr.findKey kt (q.ek k) es).run P w= .ok (afind q l k 0) w
 check:∀ (w:World) (b:Bool) (k:K),(Instr.checkKey b 10000 kt (q.ek k)).run P w= .ok () w
 stay:∀ k:K,Instr.sameBits 10000 (q.ek k) (q.ek k)=true
theorem afind_look (q:Kq K V):∀ (l:List (K×V)) (k:K) (i:Nat),(afind q l k i).map (·.2)=(alook l k).map q.ev
 | [],_,_=>rfl
 | p ::l,k,i=>by
  unfold afind alook
  split
  ·rfl
  ·exact afind_look q l k (i+1)
theorem afind_at (q:Kq K V):∀ (l:List (K×V)) (k:K) (i j:Nat) (u:Value),afind q l k i=some (j,u)->∃ (d:Nat) (v:V),j=i+d/\l[d]? =some (k,v)/\∀ v2:V,l.set d (k,v2)=aset l k v2
 | [],_,_,_,_,h=>by simp [afind] at h
 | p ::l,k,i,j,u,h=>by
  unfold afind at h
  by_cases c:k=p.1
  ·rw [if_pos c] at h
   obtain ⟨rfl,rfl⟩:=Prod.mk.inj (Option.some.inj h)
   exact ⟨0,p.2,rfl,by rw [c];rfl,fun v2=>by unfold aset;rw [if_pos c];rfl⟩
  ·rw [if_neg c] at h
   obtain ⟨d,v,h1,h2,h3⟩:=afind_at q l k (i+1) j u h
   exact ⟨d+1,v,by omega,h2,fun v2=>by unfold aset;rw [if_neg c,<- h3 v2];rfl⟩
theorem afind_none (q:Kq K V):∀ (l:List (K×V)) (k:K) (i:Nat),afind q l k i=none->∀ v:V,aset l k v=l ++ [(k,v)]
 | [],_,_,_,_=>rfl
 | p ::l,k,i,h,v=>by
  unfold afind at h
  by_cases c:k=p.1
  ·rw [if_pos c] at h;cases h
  ·rw [if_neg c] at h
   unfold aset
   rw [if_neg c,afind_none q l k (i+1) h v];rfl
theorem alook_mem:∀ (l:List (K×V)) (k:K) (v:V),alook l k=some v->(k,v) ∈ l
 | [],_,_,h=>by cases h
 | p ::l,k,v,h=>by
  unfold alook at h
  by_cases c:k=p.1
  ·rw [if_pos c] at h
   rw [c,<- Option.some.inj h];exact List.mem_cons_self
  ·rw [if_neg c] at h
   exact List.mem_cons_of_mem _ (alook_mem l k v h)
theorem aset_mem:∀ (l:List (K×V)) (k:K) (v:V) (p:K×V),p ∈ aset l k v->p ∈ l\/p=(k,v)
 | [],k,v,p,h=>.inr (List.mem_singleton.1 h)
 | x ::l,k,v,p,h=>by
  unfold aset at h
  split at h
  ·rcases List.mem_cons.1 h with h | h
   ·exact .inr h
   ·exact .inl (List.mem_cons_of_mem _ h)
  ·rcases List.mem_cons.1 h with h | h
   ·exact .inl (h ▸ List.mem_cons_self)
   ·exact (aset_mem l k v p h).imp (List.mem_cons_of_mem _) id
structure Mq (Wr M:Nat->Prop) (w:World) (q:Kq K V) (b:Nat) (l:List (K×V)):Prop where
 m:M b
 wr:Wr b
 ok:∀ p ∈ l,q.ok p.2
 len:l.length<=9223372036854775807
 row:∃ es clock,w.heap[b]? =some (.map es clock)/\es.toList.map (fun e=>(e.key,e.val))=l.map (fun p=>(q.ek p.1,q.ev p.2))
end
section
variable {K V:Type} [DecidableEq K] {q:Kq K V} {Wr Wr' Wf M M' M0 C:Nat->Prop} {w w' w0:World} {b:Nat} {l:List (K×V)}
theorem Mq.lt (h:Mq Wr M w q b l):b<w.heap.size:=by obtain ⟨es,c,h,_⟩:=h.row;exact (Array.getElem?_eq_some_iff.1 h).1
theorem Mq.ltB (h:Mq Wr M w q b l):∀ x,Bb b x->x<w.heap.size:=fun x hx=>by rw [show x=b from hx];exact h.lt
theorem Mq.inB (h:Mq Wr M w q b l):∀ x,Bb b x->M x/\Wr x:=fun x hx=>by rw [show x=b from hx];exact ⟨h.m,h.wr⟩
theorem Mq.reW (h:Mq Wr M w q b l) (hw:∀ x,Bb b x->Wr' x):Mq Wr' M w q b l:=⟨h.m,hw b rfl,h.ok,h.len,h.row⟩
theorem Mq.keptC (h:Mq Wr M w q b l) (hc:Chg w w' C) (hd:Dis (Bb b) C) (hi:∀ b,M b->M' b):Mq Wr M' w' q b l:=by
 obtain ⟨es,c,h1,h2⟩:=h.row
 exact ⟨hi b h.m,h.wr,h.ok,h.len,es,c,(hc.block b h.lt (hd b rfl)).trans h1,h2⟩
theorem Mq.dropC (h:Mq Wr M w q b l) (hm:∀ b,M b->¬ C b->M' b) (hd:Dis (Bb b) C):Mq Wr M' w q b l:=⟨hm b h.m (hd b rfl),h.wr,h.ok,h.len,h.row⟩
theorem Mq.kc {c:Nat} (h:Mq Wr M w q b l) (hg:w.grownBy w' (some c)) (hd:Dis (Bb b) (Bb c)):Mq Wr M w' q b l:=h.keptC (Chg.bb hg) hd (fun _ h=>h)
variable {P:Program} {o:Oper} {n:Nat} {L:List (Nat×Value)} {T kt vt:TypeId} {x y z:Operand} {k:K} {v:V}
theorem o_mkq (q:Kq K V) (ho:o.op= .makeMap T none) (hS:St Wr w0 M0 w M) (hW:∀ b,Wf b->Wr b) (hF:∀ b,w0.heap.size<=b->Wf b):OpC P o n L w (fun v w'=>∃ b M',v= .map (some b)/\Mq Wf M' w' q b []/\St Wr w0 M0 w' M'/\Step M w M' w'/\Below w.heap.size w w'/\(∀ c,M c->M' c)/\w.heap.size<=b):=fun a ha K Q hK=>by
 have hr:(execOp a.eval o).run P w= .ok (.value (.map (some w.heap.size))) (w.alloc (.map #[] 0)):=by
  simp [execOp,ho,Instr.makeMap]
 unfold Oper.wp
 rw [hr]
 have hb:=below_alloc1 w (.map #[] 0)
 have hst:Step M w (ins M w.heap.size) (w.alloc (.map #[] 0)):=⟨hb.size,fun b h _=>hb.block b h,fun b h=>h.elim (fun e=>.inr (by omega)) .inl⟩
 refine hK _ _ ⟨_,ins M w.heap.size,rfl,⟨.inl rfl,hF _ hS.eff.size,fun p hp=>by simp at hp,Nat.zero_le _,#[],0,heap_alloc_new w _,rfl⟩,⟨hS.eff.below hb,hS.step.trans hst,fun b h=>.inr (hS.inc b h),fun b h=>?_⟩,hst,hb,fun c h=>.inr h,Nat.le_refl _⟩
 rcases h with rfl | h
 ·simp
 ·have:=hS.lt b h
  simp
  omega
theorem o_lkq {z0:Value} {v0:V} {u:Value} (hu:P.underlying T=some (.map kt vt)) (hk:q.Ok P kt) (hz:(P.info? vt).bind (·.zero)=some z0) (h0:z0=q.ev v0) (hm:Mq Wr M w q b l) (ho:o.op= .lookup T x y true:=by rfl) (hx:ev L x=some (.map (some b)):=by rfl) (hy:ev L y=some (q.ek k):=by rfl):OpV P o n L w (.tuple #[q.ev ((alook l k).getD v0),.bool (alook l k).isSome]):=fun a ha=>by
 obtain ⟨es,c,h1,h2⟩:=hm.row
 have hf:=hk.find w l es.toList k h2
 have hc:=hk.check w es.isEmpty k
 obtain ⟨inf,hi,hz⟩:=Option.bind_eq_some_iff.1 hz
 have h3:=afind_look q l k 0
 cases hq:afind q l k 0 with
 | none=>
  rw [hq] at hf h3
  have h4:alook l k=none:=by simpa using h3.symm
  simp [execOp,ho,ha.ev hx,ha.ev hy,Instr.lookup,run_underlying hu,MapKept.run_getObj_map h1,hc,hf,Result.andThen,zeroValue,typeInfo,hi,hz,h4,h0]
 | some p=>
  rw [hq] at hf h3
  obtain ⟨v,h4,h5⟩:=Option.map_eq_some_iff.1 (show (alook l k).map q.ev=some p.2 from h3.symm)
  simp [execOp,ho,ha.ev hx,ha.ev hy,Instr.lookup,run_underlying hu,MapKept.run_getObj_map h1,hc,hf,Result.andThen,h4,h5]
theorem o_lkq1 {z0:Value} {v0:V} {u:Value} (hu:P.underlying T=some (.map kt vt)) (hk:q.Ok P kt) (hz:(P.info? vt).bind (·.zero)=some z0) (h0:z0=q.ev v0) (hm:Mq Wr M w q b l) (ho:o.op= .lookup T x y false:=by rfl) (hx:ev L x=some (.map (some b)):=by rfl) (hy:ev L y=some (q.ek k):=by rfl):OpV P o n L w (q.ev ((alook l k).getD v0)):=fun a ha=>by
 obtain ⟨es,c,h1,h2⟩:=hm.row
 have hf:=hk.find w l es.toList k h2
 have hc:=hk.check w es.isEmpty k
 obtain ⟨inf,hi,hz⟩:=Option.bind_eq_some_iff.1 hz
 have h3:=afind_look q l k 0
 cases hq:afind q l k 0 with
 | none=>
  rw [hq] at hf h3
  have h4:alook l k=none:=by simpa using h3.symm
  simp [execOp,ho,ha.ev hx,ha.ev hy,Instr.lookup,run_underlying hu,MapKept.run_getObj_map h1,hc,hf,Result.andThen,zeroValue,typeInfo,hi,hz,h4,h0]
 | some p=>
  rw [hq] at hf h3
  obtain ⟨v,h4,h5⟩:=Option.map_eq_some_iff.1 (show (alook l k).map q.ev=some p.2 from h3.symm)
  simp [execOp,ho,ha.ev hx,ha.ev hy,Instr.lookup,run_underlying hu,MapKept.run_getObj_map h1,hc,hf,Result.andThen,h4,h5]
theorem Mq.look (hm:Mq Wr M w q b l) {v0:V} (h0:q.ok v0):q.ok ((alook l k).getD v0):=by
 cases h:alook l k with
 | none=>exact h0
 | some v=>exact hm.ok _ (alook_mem l k v h)
theorem o_upq (hu:P.underlying T=some (.map kt vt)) (hk:q.Ok P kt) (hm:Mq Wf M w q b l) (hv0:q.ok v) (hlen:l.length<9223372036854775807) (hW:∀ b,Wf b->Wr b) (hS:St Wr w0 M0 w M) (ho:o.op= .mapUpdate T x y z:=by rfl) (hx:ev L x=some (.map (some b)):=by rfl) (hy:ev L y=some (q.ek k):=by rfl) (hv:ev L z=some (q.ev v):=by rfl) :
  OpC P o n L w (fun _ w'=>Mq Wf M w' q b (aset l k v)/\St Wr w0 M0 w' M/\Step M w M w'/\w.grownBy w' (some b)):=fun a ha K' Q hK=>by
 obtain ⟨es,c,h1,h2⟩:=hm.row
 have hf:=hk.find w l es.toList k h2
 have hc:=hk.check w false k
 have fin:∀ es' c',(execOp a.eval o).run P w= .ok .skip (ChangeMaps.setBlock w b (.map es' c'))->(aset l k v).length<=9223372036854775807->es'.toList.map (fun e=>(e.key,e.val))=(aset l k v).map (fun p=>(q.ek p.1,q.ev p.2))->o.wp P a w K' Q:=by
  intro es' c' hr hl hi
  unfold Oper.wp
  rw [hr,Oper.upon_skip]
  have hg:w.grownBy (ChangeMaps.setBlock w b (.map es' c')) (some b):=⟨rfl,rfl,rfl,by simp [ChangeMaps.setBlock],fun i _ hi=>ChangeMaps.heap_setBlock_other h1 _ (fun e=>hi (by rw [e]))⟩
  have hst:Step M w M (ChangeMaps.setBlock w b (.map es' c')):=⟨hg.size,fun c hc hn=>hg.block c hc (fun e=>hn (by injection e with e;rw [e];exact hm.m)),fun _ h=>.inl h⟩
  refine hK _ _ ⟨⟨hm.m,hm.wr,fun p hp=>?_,hl,es',c',ChangeMaps.heap_setBlock_same h1 _,hi⟩,⟨hS.eff.grown hg (fun c e=>by injection e with e;rw [<- e];exact hW _ hm.wr),hS.step.trans hst,hS.inc,fun c hc=>Nat.lt_of_lt_of_le (hS.lt c hc) hg.size⟩,hst,hg⟩
  rcases aset_mem l k v p hp with hp | rfl
  ·exact hm.ok p hp
  ·exact hv0
 cases hq:afind q l k 0 with
 | none=>
  rw [hq] at hf
  have e:=afind_none q l k 0 hq v
  refine fin (es.push ⟨q.ek k,q.ev v,c⟩) (c+1) ?_ (by rw [e];simp;omega) ?_
  ·simp [execOp,ho,ha.ev hx,ha.ev hy,ha.ev hv,Instr.mapUpdate,run_underlying hu,MapKept.run_getObj_map h1,hc,hf,MapKept.run_setObj_map _ h1,Result.andThen,ChangeMaps.setBlock]
  ·rw [e,Array.toList_push,List.map_append,h2,List.map_append]
   rfl
 | some p=>
  obtain ⟨j,u⟩:=p
  rw [hq] at hf
  obtain ⟨d,v1,hd,hl,hset⟩:=afind_at q l k 0 j u hq
  obtain rfl:j=d:=by omega
  have hje:j<es.toList.length:=by
   have:=congrArg List.length h2
   have h3:=(List.getElem?_eq_some_iff.1 hl).1
   simp at this
   simpa [this] using h3
  obtain ⟨e,he⟩:∃ e,es.toList[j]? =some e:=⟨_,List.getElem?_eq_getElem hje⟩
  have hke:e.key=q.ek k:=by
   have h4:=congrArg (fun t=>t[j]?) h2
   simp only [List.getElem?_map,he,hl,Option.map_some] at h4
   exact (Prod.mk.inj (Option.some.inj h4)).1
  have hj:es[j]? =some e:=by simpa using he
  have hlist:(es.modify j (fun e'=>{ e' with key:=q.ek k,val:=q.ev v })).toList=es.toList.set j { e with key:=q.ek k,val:=q.ev v }:=by rw [Array.toList_modify,ChangeMaps.modify_eq_set _ _ _ _ he]
  have hstay:=hk.stay k
  refine fin (es.modify j (fun e'=>{ e' with key:=q.ek k,val:=q.ev v })) c ?_ (by rw [<- hset v,List.length_set];exact hm.len) ?_
  ·simp [execOp,ho,ha.ev hx,ha.ev hy,ha.ev hv,Instr.mapUpdate,run_underlying hu,MapKept.run_getObj_map h1,hc,hf,hj,hke,Instr.keyThatStays,hstay,MapKept.run_setObj_map _ h1,Result.andThen,ChangeMaps.setBlock]
  ·rw [hlist,List.map_set,h2,<- hset v,List.map_set]
end
theorem kq_int {V:Type} (ev:V->Value) (ok:V->Prop) {P:Program} {kt:TypeId} (hk:P.underlying kt=some (.int .i64)):Kq.Ok P kt (⟨fun k=>.int .i64 k,ev,ok⟩:Kq Int V):=by
 refine ⟨fun w l es k h=>?_,fun w b k=>MapKept.run_checkKey hk (by simp [MapKept.IsKey]) b 9999,fun k=>by simp [Instr.sameBits]⟩
 refine MapKept.run_findKey hk ?_
 have go:∀ (l:List (Int×V)) (es:List MapEntry) (i:Nat),es.map (fun e=>(e.key,e.val))=l.map (fun p=>(Value.int .i64 p.1,ev p.2))->Instr.findNow (.int .i64) (.int .i64 k) es i=some (afind (⟨fun k=>.int .i64 k,ev,ok⟩:Kq Int V) l k i):=fun l=>by
  induction l with
  | nil=>
   intro es i h
   obtain rfl:es= []:=by simpa using h
   rfl
  | cons p l ih=>
   intro es i h
   cases es with
   | nil=>simp at h
   | cons e es=>
    simp only [List.map_cons,List.cons.injEq,Prod.mk.injEq] at h
    obtain ⟨⟨h1,h2⟩,h3⟩:=h
    unfold Instr.findNow afind
    rw [h1]
    simp only [Instr.sameNow]
    by_cases c:k=p.1
    ·simp [c,h2]
    ·rw [if_neg c]
     have:(k == p.1)=false:=by simpa using c
     simp only [if_true,this]
     exact ih es (i+1) h3
 exact go l es 0 h
theorem forIn_all {P : Program} {w : World} {xs ys : List Bool} {N : Nat} (hx : xs.length = N) (hy : ys.length = N) {f : Nat -> Option Bool × Unit -> Sem (ForInStep (Option Bool × Unit))} (hf : ∀ i (h : i < N) r, (f i r).run P w = .ok (if xs[i]'(by omega) = ys[i]'(by omega) then .yield (none, ()) else .done (some false, ())) w) :
  ∀ m j,j+m=N->(forIn (List.range' j m) (none,()) f).run P w= .ok (if xs.drop j=ys.drop j then (none,()) else (some false,())) w
 | 0,j,h=>by
  obtain rfl:j=N:=by omega
  rw [List.drop_of_length_le (by omega),List.drop_of_length_le (by omega),if_pos rfl]
  rfl
 | m+1,j,h=>by
  have ih:=forIn_all hx hy hf m (j+1) (by omega)
  rw [List.range'_succ,List.forIn_cons,Sem.run_bind,hf j (by omega)]
  have e1 : xs.drop j = xs[j]'(by omega) :: xs.drop (j + 1) := List.drop_eq_getElem_cons (by omega)
  have e2 : ys.drop j = ys[j]'(by omega) :: ys.drop (j + 1) := List.drop_eq_getElem_cons (by omega)
  rw [e1,e2]
  by_cases c : xs[j]'(by omega) = ys[j]'(by omega)
  ·rw [if_pos c]
   simp only [Result.andThen_ok]
   rw [ih]
   by_cases d:xs.drop (j+1)=ys.drop (j+1)
   ·rw [if_pos d,if_pos (by rw [c,d])]
   ·rw [if_neg d,if_neg fun g=>d (List.cons.inj g).2]
  ·rw [if_neg c,if_neg fun g=>c (List.cons.inj g).1]
   rfl
theorem eq_arrb {P:Program} {w:World} {T e:TypeId} {N:Nat} {xs ys:List Bool} (hu:P.underlying T=some (.array N e)) (he:P.underlying e=some .bool) (hs:(P.info? e).map (·.size)=some 1) (hx:xs.length=N) (hy:ys.length=N) :
  (Op.equalIn 10000 T (.agg (xs.map Value.bool).toArray) (.agg (ys.map Value.bool).toArray)).run P w= .ok (decide (xs=ys)) w:=by
 obtain ⟨inf,hi,hz⟩:=Option.map_eq_some_iff.1 hs
 have ha:(Go.isAgg e).run P w= .ok false w:=by
  have:=isAgg_run (P:=P) (w:=w) he
  simpa [E.isAgg] using this
 have q:∀ a b:Bool,(Op.equalIn 9999 e (.bool a) (.bool b)).run P w= .ok (a == b) w:=fun a b=>by
  rw [run_equalIn_bool w 9998 e a b he]
 have p0:∀ (l:List Bool) i (h:i<l.length),(part e (l.map Value.bool).toArray i).run P w= .ok (.bool l[i]) w:=fun l i h=>by
  simp [part,Sem.run_bind,ha,h]
 rw [Op.equalIn]
 simp only [Sem.run_bind,run_underlying hu,Result.andThen_ok,sizeOf,typeInfo,run_program,hi,Sem.run_pure,hz,Std.Legacy.Range.forIn_eq_forIn_range',Std.Legacy.Range.size,Nat.sub_zero,Nat.add_sub_cancel,Nat.div_one,Nat.mul_one]
 rw [forIn_all (P:=P) (w:=w) hx hy (fun i h r=>by
  simp only [Sem.run_bind,p0 xs i (by omega),p0 ys i (by omega),Result.andThen_ok,q]
  by_cases c : xs[i]'(by omega) = ys[i]'(by omega)
  ·simp [c]
  ·simp [c]) N 0 (by omega)]
 simp only [List.drop_zero,Result.andThen_ok]
 by_cases c:xs=ys
 ·simp [c]
 ·simp [c]
theorem check_arrb {P:Program} {w:World} {T e:TypeId} {N:Nat} {xs:List Bool} {b:Bool} (hu:P.underlying T=some (.array N e)) (he:P.underlying e=some .bool) (hs:(P.info? e).map (·.size)=some 1) (hx:xs.length=N) :
  (Instr.checkKey b 10000 T (.agg (xs.map Value.bool).toArray)).run P w= .ok () w:=by
 obtain ⟨inf,hi,hz⟩:=Option.map_eq_some_iff.1 hs
 have ha:(Go.isAgg e).run P w= .ok false w:=by
  have:=isAgg_run (P:=P) (w:=w) he
  simpa [E.isAgg] using this
 have p0:∀ (l:List Bool) i (h:i<l.length),(part e (l.map Value.bool).toArray i).run P w= .ok (.bool l[i]) w:=fun l i h=>by
  simp [part,Sem.run_bind,ha,h]
 have ck:∀ x:Bool,(Instr.checkKey b 9999 e (.bool x)).run P w= .ok () w:=fun x=>by
  rw [Instr.checkKey]
  simp [Sem.run_bind,run_underlying he,Result.andThen_ok]
 rw [Instr.checkKey]
 simp only [Sem.run_bind,run_underlying hu,Result.andThen_ok,Std.Legacy.Range.forIn_eq_forIn_range',Std.Legacy.Range.size,Nat.sub_zero,Nat.add_sub_cancel,Nat.div_one]
 have go:∀ m j,j+m=N->(forIn (List.range' j m) () fun i (_:Unit)=>(do
   Instr.checkKey b 9999 e (<- part e (xs.map Value.bool).toArray (i*(<- sizeOf e)))
   pure (ForInStep.yield ()):Sem (ForInStep Unit))).run P w= .ok () w:=fun m=>by
  induction m with
  | zero=>intro j h;rfl
  | succ m ih=>
   intro j h
   rw [List.range'_succ,List.forIn_cons]
   simp only [Sem.run_bind,sizeOf,typeInfo,run_program,hi,hz,Result.andThen_ok,Sem.run_pure,Nat.mul_one,p0 xs j (by omega),ck]
   exact ih (j+1) (by omega)
 have h2:=go N 0 (by omega)
 simp at h2
 simp
 erw [h2]
 rfl
theorem kq_arrb {K V:Type} [DecidableEq K] (bits:K->List Bool) (inj:∀ x y,bits x=bits y->x=y) (ev:V->Value) (ok:V->Prop) {P:Program} {kt e:TypeId} {N:Nat} (hn:∀ x,(bits x).length=N) (hu:P.underlying kt=some (.array N e)) (he:P.underlying e=some .bool) (hs:(P.info? e).map (·.size)=some 1):Kq.Ok P kt (⟨fun k=>.agg ((bits k).map Value.bool).toArray,ev,ok⟩:Kq K V):=by
 refine ⟨fun w l es k h=>?_,fun w b k=>check_arrb hu he hs (hn k),fun k=>?_⟩
 ·have hfa:(Instr.findKey kt (.agg ((bits k).map Value.bool).toArray) es).run P w=(Instr.findAsking kt (.agg ((bits k).map Value.bool).toArray) es).run P w:=by
   cases es with
   | nil=>simp [Instr.findKey,run_underlying hu,Instr.findNow,Instr.findAsking,Result.andThen]
   | cons e es=>simp [Instr.findKey,run_underlying hu,Instr.findNow,Instr.sameNow,Result.andThen]
  have go:∀ (l:List (K×V)) (es:List MapEntry) (i:Nat),es.map (fun e=>(e.key,e.val))=l.map (fun p=>(Value.agg ((bits p.1).map Value.bool).toArray,ev p.2))->(Instr.findAsking kt (.agg ((bits k).map Value.bool).toArray) es i).run P w= .ok (afind (⟨fun k=>.agg ((bits k).map Value.bool).toArray,ev,ok⟩:Kq K V) l k i) w:=fun l=>by
   induction l with
   | nil=>
    intro es i h
    obtain rfl:es= []:=by simpa using h
    simp [Instr.findAsking,afind]
   | cons p l ih=>
    intro es i h
    cases es with
    | nil=>simp at h
    | cons e' es=>
     simp only [List.map_cons,List.cons.injEq,Prod.mk.injEq] at h
     obtain ⟨⟨h1,h2⟩,h3⟩:=h
     have hd:decide (bits k=bits p.1)=decide (k=p.1):=decide_eq_decide.2 ⟨inj _ _,fun e=>by rw [e]⟩
     have heq:(Op.equal kt (.agg ((bits k).map Value.bool).toArray) e'.key).run P w= .ok (decide (k=p.1)) w:=by
      rw [h1,<- hd]
      exact eq_arrb hu he hs (hn k) (hn p.1)
     have ih2:=ih es (i+1) h3
     unfold afind
     by_cases c:k=p.1
     ·rw [if_pos c]
      rw [decide_eq_true c] at heq
      simp [Instr.findAsking,Sem.run_bind,heq,h2,Result.andThen]
     ·rw [if_neg c]
      rw [decide_eq_false c] at heq
      simp [Instr.findAsking,Sem.run_bind,heq,Result.andThen,ih2]
  exact hfa.trans (go l es 0 h)
 ·have:∀ l:List Bool,((l.map Value.bool).zip (l.map Value.bool)).all (fun x=>Instr.sameBits 9999 x.1 x.2)=true:=fun l=>by
   induction l with
   | nil=>rfl
   | cons a l ih=>simp only [List.map_cons,List.zip_cons_cons,List.all_cons,ih,Bool.and_true];simp [Instr.sameBits]
  show Instr.sameBits (9999+1) _ _=true
  unfold Instr.sameBits
  simp [this]
end Go.Proofs.Ytbjnmmgnonldnaa.E
namespace Go.Proofs.Ytbjnmmgnonldnaa.E
open Go Go.RowKit
theorem zc_int (n:Nat):(Builtin.zeroCells (Value.int .i64 0).cells n).toList=List.replicate n (.int .i64 0):=by
 have:(Value.int .i64 0).cells= #[.int .i64 0]:=rfl
 rw [this]
 unfold Builtin.zeroCells
 refine List.ext_getElem (by simp) fun i h1 h2=>?_
 simp [Nat.mod_one]
section
variable {P:Program} {o:Oper} {n:Nat} {L:List (Nat×Value)} {w w0:World} {x:Operand} {T e:TypeId} {Wr M M0:Nat->Prop} {v:Value} {xs:List Int}
theorem int_zeros {M:Nat->Prop} {w:World} :∀ m:Nat,(Kd.int .i64).Cs M w (List.replicate m (0:Int)) (List.replicate m (.int .i64 0))
 | 0=>.nil
 | m+1=>Kd.Cs.cons (a:=Kd.int .i64) (c:=[.int .i64 0]) (show (Kd.int .i64).R M w 0 [.int .i64 0] from ⟨rfl,by simp [InK]⟩) (int_zeros m)
theorem o_clr {A:Option Addr} {c q:Nat} {i:Int} {cl:Call} (hu:P.underlying T=some (.slice e)) (hz:(P.info? e).map (fun i=>(i.zero,i.size))=some (some (.int .i64 0),1)) (hO:Own Wr M w (Kd.int .i64) e v xs) (hv:v= .slice A xs.length c) (h0:0<=i) (h1:i<=xs.length) (hq:q=xs.length - i.toNat) (hS:St Wr w0 M0 w M)
  (ho:o.op= .call cl:=by rfl) (hc:cl.callee= .builtin .clear:=by rfl) (has:cl.args= #[x]:=by rfl) (hat:cl.argTypes= #[T]:=by rfl) (hx:ev L x=some (.slice (slA A c i 1) q (c - i.toNat)):=by rfl) :
  OpC P o n L w (fun _ w'=>Own Wr M w' (Kd.int .i64) e v (xs.take i.toNat ++ List.replicate (xs.length - i.toNat) 0)/\St Wr w0 M0 w' M/\Step M w M w'/\w.grownBy w' v.ownBlock):=fun act ha K Q hK=>by
 have nop:(execOp act.eval o).run P w= .ok (.value (.tuple #[])) w->xs.length=i.toNat->o.wp P act w K Q:=fun hr hl=>by
  unfold Oper.wp
  rw [hr]
  refine hK _ _ ⟨?_,hS,⟨Nat.le_refl _,fun _ _ _=>rfl,fun _ h=>.inl h⟩,⟨rfl,rfl,rfl,Nat.le_refl _,fun _ _ _=>rfl⟩⟩
  rw [hl,Nat.sub_self,List.replicate_zero,List.append_nil,<- hl,List.take_length]
  exact hO
 obtain ⟨hlo,cs,h2,h3,h4⟩:=hO
 subst hq
 have ex:∀ r,(Builtin.clear_ #[T] o.type #[.slice (slA A c i 1) (xs.length - i.toNat) (c - i.toNat)]).run P w=r->(execOp act.eval o).run P w=r.andThen fun u w=>.ok (.value u) w:=fun r hr=>by
  simp only [execOp,ho,resolve,hc,has,hat,List.map_toArray,List.map_cons,List.map_nil,ha.ev hx,invoke,builtin,Sem.run_bind,Sem.run_pure,Result.andThen_ok,hr]
 rcases Nat.eq_zero_or_pos (xs.length - i.toNat) with hq | hq
 ·refine nop ((ex (.ok (.tuple #[]) w) ?_).trans rfl) (by omega)
  rw [hq]
  cases slA A c i 1 <;> simp [Builtin.clear_,run_underlying hu]
 rcases h2.2 with ⟨hv',hn⟩ | ⟨g,cap,cur,hv',hbb,hh,h5,h6,h7,h8⟩
 ·omega
 rw [hv'] at hv
 injection hv with q1 q2 q3
 subst q1 q3
 have sl:slA (some ⟨g,0,none⟩) cap i 1=some ⟨g,i.toNat,none⟩:=by
  unfold slA
  rw [if_neg (by omega),Option.map_some]
  simp only [Addr.add,Nat.zero_add,Nat.mul_one]
  by_cases z:i.toNat=0
  ·rw [if_pos z,z]
  ·rw [if_neg z]
 have hz1:(P.info? e).map (fun i=>(i.zero,i.size))=some (some (.int .i64 0),1):=hz
 have hst:=run_storeCells_at P g i.toNat e (List.replicate (xs.length - i.toNat) (.int .i64 0)) 0 cur w hh (by rw [List.length_replicate,h7,show (Kd.int .i64).sz=1 from rfl];omega) (fun v hv=>by rw [(List.mem_replicate.1 hv).2];rfl)
 rw [List.length_replicate,Nat.add_zero] at hst
 obtain ⟨inf,hinf,hze⟩:=Option.map_eq_some_iff.1 hz1
 have hze1:inf.zero=some (.int .i64 0):=(Prod.mk.inj hze).1
 have hcl:(Builtin.clear_ #[T] o.type #[.slice (slA (some ⟨g,0,none⟩) cap i 1) (xs.length - i.toNat) (cap - i.toNat)]).run P w= .ok (.tuple #[]) (w.setRow g (cur.toList.take i.toNat ++ List.replicate (xs.length - i.toNat) (Value.int .i64 0) ++ cur.toList.drop (i.toNat+(xs.length - i.toNat))).toArray):=by
  rw [sl]
  obtain ⟨q,hq'⟩:∃ q,xs.length - i.toNat=q+1:=⟨xs.length - i.toNat - 1,by omega⟩
  rw [hq'] at hst |-
  simp only [Builtin.clear_,Sem.run_bind,List.getElem?_toArray,List.getElem?_cons_zero,run_underlying hu,Result.andThen_ok,zeroValue,typeInfo,run_program,hinf,hze1,Sem.run_pure,zc_int,hst]
 have hop:=ex _ hcl
 simp only [Result.andThen_ok] at hop
 unfold Oper.wp
 rw [hop]
 have e1:i.toNat+(xs.length - i.toNat)=xs.length:=by omega
 rw [e1]
 have hg:=grown_setRow w g (cur.toList.take i.toNat ++ List.replicate (xs.length - i.toNat) (Value.int .i64 0) ++ cur.toList.drop xs.length).toArray
 have hob:v.ownBlock=some g:=by rw [hv'];rfl
 have hstep:Step M w M (w.setRow g (cur.toList.take i.toNat ++ List.replicate (xs.length - i.toNat) (Value.int .i64 0) ++ cur.toList.drop xs.length).toArray):=⟨hg.size,fun b hb hn=>hg.block b hb (fun e=>hn (by injection e with e;rw [e];exact (h4 g hob).1)),fun _ h=>.inl h⟩
 have s1:(Kd.int .i64).sz=1:=rfl
 obtain ⟨pre,c0,post,hcs,hp,hc0⟩:=h3.part 0 i.toNat (by omega)
 obtain rfl:pre= []:=List.eq_nil_of_length_eq_zero (by simpa using hp)
 rw [List.drop_zero] at hc0
 have cl0:c0.length=i.toNat:=by have:=hc0.len;rw [List.length_take,s1] at this;omega
 have hl:(xs.take i.toNat ++ List.replicate (xs.length - i.toNat) (0:Int)).length=xs.length:=by simp;omega
 refine hK _ _ ⟨⟨by rw [hl];exact hlo,c0 ++ List.replicate (xs.length - i.toNat) (.int .i64 0),⟨?_,.inr ⟨g,cap,_,?_,Nat.zero_le _,setRow_heap w g cur _ e (0,0) hh,?_,h6,?_,?_⟩⟩,(hc0.to hstep).app (int_zeros _),h4⟩,⟨hS.eff.grown hg (fun b hb=>by injection hb with hb;rw [<- hb];exact (h4 g hob).2),hS.step.trans hstep,hS.inc,fun b h=>Nat.lt_of_lt_of_le (hS.lt b h) hg.size⟩,hstep,by rw [hob];exact hg⟩
 ·rw [hl,s1,List.length_append,cl0,List.length_replicate];omega
 ·rw [hl,hv']
 ·rw [hl];exact h5
 ·simp only [List.size_toArray,List.length_append,List.length_take,List.length_drop,Array.length_toList,List.length_replicate,h7,s1]
  omega
 ·rw [hl,s1,Nat.mul_one]
  have ct:cur.toList.take i.toNat=c0:=by
   have:=congrArg (List.take i.toNat) h8
   rw [s1,Nat.mul_one,List.take_take,Nat.min_eq_left (by omega),hcs,List.nil_append,List.take_left' cl0] at this
   exact this
  rw [ct]
  exact List.take_left' (by rw [List.length_append,cl0,List.length_replicate];omega)
theorem o_sldV {A:Option Addr} {m c s:Nat} {i:Int} {k:IntKind} {lo:Operand} (ho:o.op= .slice T x (some lo) none none) (hu:P.underlying T=some (.slice e)) (hs:(P.info? e).map (·.size)=some s) (hx:ev L x=some v) (hv:v= .slice A m c) (hlo:ev L lo=some (.int k i)) (hc:m<=c) (h0:0<=i) (h1:i<=m) {q:Nat} (hq:q=m - i.toNat) :
  OpV P o n L w (.slice (slA A c i s) q (c - i.toNat)):=o_sld ho hu hs (hv ▸ hx) hlo hc h0 h1 hq
end
end Go.Proofs.Ytbjnmmgnonldnaa.E
namespace Go.Proofs.Ytbjnmmgnonldnaa.E
open Go Go.RowKit
section
variable {P:Program} {o:Oper} {n:Nat} {L:List (Nat×Value)} {w:World} {x y:Operand} {T T':TypeId} {k:IntKind} {p q:Int}
end
end Go.Proofs.Ytbjnmmgnonldnaa.E
