/- Joined. -/
import Derived.Test.YtgbmmbfminafnaaKE10
import Derived.Maps.Keyed
import Derived.Carry
import Derived.Scope
set_option linter.unusedVariables false
set_option linter.unusedSimpArgs false
namespace Go.Proofs.Ytgbmmbfminafnaa.E
open Go Go.RowKit
section
variable {Wr Wr' Wf M M' M0 C:Nat->Prop} {w w' w0:World} {b:Nat} {f:Int->Bool}
variable {P:Program} {o:Oper} {n:Nat} {L:List (Nat×Value)} {T kt vt:TypeId} {x y z:Operand} {k:Int} {v:Bool}
end
end Go.Proofs.Ytgbmmbfminafnaa.E
namespace Go.Proofs.Ytgbmmbfminafnaa.E
open Go Go.RowKit
abbrev I6 (n:Int):Value:=.int .i64 n
theorem dT {p:Prop} [Decidable p] (h:p):decide p=true:=decide_eq_true h
theorem dF {p:Prop} [Decidable p] (h: ¬ p):decide p=false:=decide_eq_false h
theorem nB {a b:Nat} (h:Nat.ble a b=true):a<=b:=Nat.le_of_ble_eq_true h
theorem wB {α β:Type} {m:W α} {f:α->W β} {p:β->Prop} (h:(W.bind m f).run p):m.run fun a=>(f a).run p:=h
theorem wR {α:Type} {c:Prop} {m:W α} {p:α->Prop} (h:(W.req c m).run p):c/\m.run p:=h
theorem fA {n:Nat} {X:Nat->Prop} :∀ b,b<n->n<=b->X b:=fun _ hb h=>absl hb h
theorem fJ {p:Prop} (h:p):p:=h
theorem aR {w:World} {b:Nat} {cs:Array Value} {t:TypeId} {fr:Nat×Nat} (h:w.heap[b]? =some (.cells cs t fr)):At w b 0 cs.toList:=At.of_row h
theorem dS {A B:Nat->Prop} (h:Dis A B):Dis B A:=h.symm
theorem bq {α:Type} {c:Prop} {i:Decidable c} {a b:W α} {p:α->Prop} (H:(@ite _ c i a b).run p):c/\a.run p\/¬ c/\b.run p:=by
 by_cases h:c
 ·exact .inl ⟨h,by rwa [if_pos h] at H⟩
 ·exact .inr ⟨h,by rwa [if_neg h] at H⟩
theorem sa {k:IntKind} {x:Int} (h:InK k x:=by first | omega | (dsimp only;omega) | simp [InK]):InK k x:=h
theorem Step.t {M M' M'':Nat->Prop} {w w' w'':World} (h:Step M w M' w') (k:Step M' w' M'' w''):Step M w M'' w'':=Step.trans h k
theorem sB {Wr M0 M:Nat->Prop} {w0 w w':World} (h:St Wr w0 M0 w M) (k:Below w.heap.size w w'):St Wr w0 M0 w' M/\Step M w M w':=⟨h.below k,Step.below k⟩
section
variable {P:Program} {L:List (Nat×Value)} {w:World} {x:Tmp} {v:Value}
theorem rv (h:lk L x=some v):RV P L w (.tmp x) v:=RV.tmp h
end
end Go.Proofs.Ytgbmmbfminafnaa.E
namespace Go.Proofs.Ytgbmmbfminafnaa.E
open Go Go.RowKit
abbrev sn:Value:=.slice none 0 0
abbrev pq (b:Nat):Value:=.pointer (some ⟨b,0,none⟩)
theorem ixb {a b:Prop} (h:a) (e:a->b:=by first | exact fun h=>h | (intro h;(try simp only [List.length_set] at h |-);first | exact h | omega)):b:=e h
section
variable {P:Program} {ops:Array Oper} {Q:Exit->Act->World->Prop} {rest:List Oper} {n:Nat} {L:List (Nat×Value)} {w w0:World} {o o1 o2 o3:Oper} {d:Nat} {v u:Value} {x y z:Operand} {T T' e:TypeId} {k:IntKind} {t:TypeDesc} {Wf Wr M M0:Nat->Prop} {b:Nat} {cs:Array Value}
theorem xm (ho:o.op= .move x:=by rfl) (hx:ev L x=some v:=by rfl) (hw:wantB ops L o=some true:=by rfl) (hd:o.dst=some d:=by rfl) (hn:Nat.blt d n=true:=by rfl) (k:WL P ops Q rest n ((d,v) ::L) w):WL P ops Q (o ::rest) n L w:=va (o_mv ho hx) k hw hd hn
theorem xs (ho:o.op= .assign x:=by rfl) (hx:ev L x=some v:=by rfl) (hw:wantB ops L o=some true:=by rfl) (hd:o.dst=some d:=by rfl) (hn:Nat.blt d n=true:=by rfl) (k:WL P ops Q rest n ((d,v) ::L) w):WL P ops Q (o ::rest) n L w:=va (o_as ho hx) k hw hd hn
theorem xe {vs:Array Value} {i:Nat} (ho:o.op= .extract x i:=by rfl) (hx:ev L x=some (.tuple vs):=by rfl) (hv:vs[i]? =some v:=by rfl) (hw:wantB ops L o=some true:=by rfl) (hd:o.dst=some d:=by rfl) (hn:Nat.blt d n=true:=by rfl) (k:WL P ops Q rest n ((d,v) ::L) w):WL P ops Q (o ::rest) n L w:=va (o_ex ho hx hv) k hw hd hn
theorem xf (ho:o.op= .pick x y z:=by rfl) (hx:ev L x=some (.bool false):=by rfl) (hy:ev L z=some v:=by rfl) (hw:wantB ops L o=some true:=by rfl) (hd:o.dst=some d:=by rfl) (hn:Nat.blt d n=true:=by rfl) (k:WL P ops Q rest n ((d,v) ::L) w):WL P ops Q (o ::rest) n L w:=va (o_pkf ho hx hy) k hw hd hn
theorem xw (h1:wantB ops L o1=some false:=by rfl) (n1:fits o1.dst n=true:=by rfl) (h2:wantB ops (putL o1.dst undef L) o2=some false:=by rfl) (n2:fits o2.dst n=true:=by rfl) (h3:wantB ops (putL o2.dst undef (putL o1.dst undef L)) o3=some false:=by rfl) (n3:fits o3.dst n=true:=by rfl) (k:WL P ops Q rest n (putL o3.dst undef (putL o2.dst undef (putL o1.dst undef L))) w):WL P ops Q (o1 ::o2 ::o3 ::rest) n L w:=xo h1 n1 (xo h2 n2 (xo h3 n3 k))
theorem la {b off:Nat} (hu:P.underlying T=some t) (hc:w.cell? ⟨b,off,none⟩ =some v) (ho:o.op= .load T x:=by rfl) (hd:isAgg t=false:=by rfl) (hx:ev L x=some (.pointer (some ⟨b,off,none⟩)):=by rfl):OpV P o n L w v:=o_ld1 ho hu hd hx hc
theorem ln {b off:Nat} {cs:List Value} (hu:P.underlying T=some t) (hs:(P.info? T).map (·.size)=some cs.length) (hc:At w b off cs) (ho:o.op= .load T x:=by rfl) (hd:isAgg t=true:=by rfl) (hx:ev L x=some (.pointer (some ⟨b,off,none⟩)):=by rfl):OpV P o n L w (.agg cs.toArray):=o_ldn ho hu hd hs hx hc
theorem fa_ {i b off s:Nat} {fs:Array Field} {f:Field} (hu:P.underlying T=some (.struct fs)) (hs:(P.info? T').map (·.size)=some (s+1)) (ho:o.op= .fieldAddr T x i:=by rfl) (hf:fs[i]? =some f:=by rfl) (hx:ev L x=some (.pointer (some ⟨b,off,none⟩)):=by rfl) (ht:f.type=T':=by rfl):OpV P o n L w (.pointer (some ⟨b,off+f.offset,none⟩)):=o_fa ho hu hf (ht ▸ hs) hx
theorem iA {b off m c s:Nat} {A:Option Addr} {i:Int} (hu:P.underlying T=some (.slice e)) (hs:(P.info? e).map (·.size)=some s) (hA:A=some ⟨b,off,none⟩) (h:0<=i/\i<m) (ho:o.op= .indexAddr T x y:=by rfl) (hx:ev L x=some (.slice A m c):=by rfl) (hy:ev L y=some (.int k i):=by rfl):OpV P o n L w (.pointer (some ⟨b,off+i.toNat*s,none⟩)):=o_iaA ho hu hs hx hA hy h.1 h.2
theorem iV {b off m c s:Nat} {i:Int} (hu:P.underlying T=some (.slice e)) (hs:(P.info? e).map (·.size)=some s) (hv:v= .slice (some ⟨b,off,none⟩) m c) (h:0<=i/\i<m) (ho:o.op= .indexAddr T x y:=by rfl) (hx:ev L x=some v:=by rfl) (hy:ev L y=some (.int k i):=by rfl):OpV P o n L w (.pointer (some ⟨b,off+i.toNat*s,none⟩)):=o_iaV ho hu hs hx hv hy h.1 h.2
theorem stp {off:Nat} (ho:o.op= .store T x y) (hx:ev L x=some (.pointer (some ⟨b,off,none⟩))) (hy:ev L y=some u) (hs:(P.info? T).map (·.size)=some u.cells.size) {T':TypeId} (h1:∀ z ∈ u.cells.toList,z.oneCell'=true) (hb:Mb Wf M w b T' cs) (hW:∀ b,Wf b->Wr b) (hS:St Wr w0 M0 w M) (hl:off+u.cells.size<=cs.size:=by exact nB rfl):OpC P o n L w (fun _ w'=>Mb Wf M w' b T' (cs.toList.take off ++ u.cells.toList ++ cs.toList.drop (off+u.cells.toList.length)).toArray/\St Wr w0 M0 w' M/\Step M w M w'/\w.grownBy w' (some b)):=o_stpW ho hx hy hs hl h1 hb hW hS
end
end Go.Proofs.Ytgbmmbfminafnaa.E
namespace Go.Proofs.Ytgbmmbfminafnaa.E
open Go Go.RowKit
section
variable {P:Program} {o:Oper} {n:Nat} {L:List (Nat×Value)} {w:World} {x y:Operand} {T e:TypeId} {k k':IntKind} {Wr M:Nat->Prop} {α:Type} {a:Kd α}
theorem a_make {z0:Value} {bytes s:Nat} {i:Int} (ho:o.op= .makeSlice T x y) (hu:P.underlying T=some (.slice e)) (hi:(P.info? e).map (fun i=>(i.zero,i.size,i.bytes))=some (some z0,s,bytes)) (hx:ev L x=some (.int k i)) (hy:ev L y=some (.int k' i)) (h0:0<=i) (hb:i*bytes<=281474976710656) (hb0:0<bytes) :
  OpA P o n L (.cells (madeCells z0.cells (i.toNat*s)) e) (fun b=>.slice (some ⟨b,0,none⟩) i.toNat i.toNat):=fun act w ha=>by
 obtain ⟨c,rfl⟩:=Int.eq_ofNat_of_zero_le h0
 obtain ⟨inf,hinf,hzz⟩:=Option.map_eq_some_iff.1 hi
 simp only [Prod.mk.injEq] at hzz
 obtain ⟨hz0,hz1,hz2⟩:=hzz
 have hb':c*bytes<=281474976710656:=by
  have:((c*bytes:Nat):Int)<=281474976710656:=by rw [Int.natCast_mul];exact hb
  omega
 have hc63:c<=281474976710656:=Nat.le_trans (Nat.le_mul_of_pos_right _ hb0) hb'
 have hbi:(inf.bytes:Int)*(c:Int)<=281474976710656:=by
  rw [hz2,Int.mul_comm,<- Int.natCast_mul]
  omega
 have hr:=run_make (P:=P) w T e inf z0 hu hinf hz0 k k' (c:Int) (c:Int) (by omega) (by omega) hbi (by omega)
 rw [hz1] at hr
 simp only [Int.toNat_natCast] at hr |-
 simp only [execOp,ho,ha.ev hx,ha.ev hy,Sem.run_bind,hr,Result.andThen_ok]
 rfl
theorem Own.late {z0:Value} {x0:α} {b m:Nat} (hr:w.heap[b]? =some (.cells (madeCells z0.cells (m*a.sz)) e (0,0))) (hM:M b) (hW:Wr b) (hz:z0.cells.size=a.sz) (hm:m<=281474976710656) (h0:∀ M w,a.R M w x0 z0.cells.toList):Own Wr M w a e (.slice (some ⟨b,0,none⟩) m m) (List.replicate m x0):=by
 refine ⟨by simpa using hm,(List.replicate m z0.cells.toList).flatten,⟨?_,.inr ⟨b,m,madeCells z0.cells (m*a.sz),?_,Nat.zero_le _,hr,?_,?_,?_,?_⟩⟩,Cs.zeros (h0 _ _) m,fun g hg=>?_⟩
 ·simp [List.length_flatten,hz]
 ·simp
 ·simp
 ·simp only [maxLen];omega
 ·simp [size_madeCells]
 ·rw [zeros_cells z0 m a.sz hz]
  exact List.take_of_length_le (by simp [List.length_flatten,hz])
 ·have:b=g:=by simpa [Value.ownBlock] using hg
  subst this
  exact ⟨hM,hW⟩
theorem Own.vv {v v':Value} {xs:List α} (hv:v=v') (h:Own Wr M w a e v xs):Own Wr M w a e v' xs:=hv ▸ h
theorem B1.sg {b m c:Nat} :∀ x,B1 (.slice (some ⟨b,0,none⟩) m c) x->x=b:=fun x h=>by
 have:b=x:=by simpa [B1,Value.ownBlock] using h
 exact this.symm
theorem B1.sgv {b m c:Nat} {v:Value} (hv: .slice (some ⟨b,0,none⟩) m c=v):∀ x,B1 v x->x=b:=by subst hv;exact B1.sg
end
section
variable {Wr M M1:Nat->Prop} {w w1 w2:World} {α:Type} {a:Kd α} {e1 e2:TypeId} {v u:Value} {us:List Value} {xss:List (List α)} {i:Int}
end
section
variable {P:Program} {ops:Array Oper} {Q:Exit->Act->World->Prop} {ds tail:List Nat} {E:List (Nat×Value)->World->Prop} {C:Nat->Prop} {w0 w:World} {n i:Nat} {r:List Stp} {pend:List Late} {had:Nat->Prop} {L:List (Nat×Value)} {M:Nat->Prop}
theorem DR.have1v {lt:Late} (k:Nat) (hk:pend[k]? =some lt) (he:lt.i=i)
  (h:∀ w1 M1 b v,lt.mkv b=v->Grow w M w1 M1->w1.heap[b]? =some lt.obj->w0.heap.size<=b->(lt.own=true->M1 b)->(lt.own=false->¬ M1 b)->¬ had b->DR P ops Q ds E C w0 n r (pend.filter fun p=>!(Nat.beq p.i i)) (hadB had b) ((lt.d,v) ::L) w1 M1):DR P ops Q ds E C w0 n (.have_ i ::r) pend had L w M:=
 DR.have1 k hk he fun w1 M1 b h1 h2 h3 h4 h5 h6=>h w1 M1 b _ rfl h1 h2 h3 h4 h5 h6
end
end Go.Proofs.Ytgbmmbfminafnaa.E
namespace Go.Proofs.Ytgbmmbfminafnaa.E
open Go Go.RowKit
section
variable {P:Program} {o:Oper} {n:Nat} {L:List (Nat×Value)} {w:World} {x y:Operand} {T e:TypeId} {k k' k'':IntKind} {Wr M N:Nat->Prop} {α:Type} {a:Kd α} {xs:List α}
end
section
variable {P:Program} {w:World}
end
section
variable {P:Program} {o:Oper} {n:Nat} {L:List (Nat×Value)} {w w0:World} {x y:Operand} {T T' e:TypeId} {Wr Wf M M0:Nat->Prop} {α:Type} {a:Kd α} {k kk:IntKind}
end
end Go.Proofs.Ytgbmmbfminafnaa.E
namespace Go.Proofs.Ytgbmmbfminafnaa.E
open Go Go.RowKit
end Go.Proofs.Ytgbmmbfminafnaa.E
namespace Go.Proofs.Ytgbmmbfminafnaa.E
open Go Go.RowKit Go.Proofs.YtgbmmbfminafnaaW.PrintLast
inductive OT where
 | e
 | c (i:Nat) (s a:OT)
def OT.heads:OT->List Nat
 | .e=>[]
 | .c i _ a=>i ::a.heads
def OT.depth:OT->Nat
 | .e=>0
 | .c _ s a=>max (s.depth+1) a.depth
def chkTr (ops:Array Oper):Bool->Array Bool->OT->Bool
 | b,l,.e=>!b || Region.ready .any ops l == []
 | b,l,.c i s a=>(!b || Region.ready .any ops l == i ::a.heads) && chkTr ops true (l.setIfInBounds i true) s && chkTr ops false l a
section
variable {P:Program} {ops:Array Oper} {Q:Exit->Act->World->Prop} {n i d:Nat} {ds:List Nat} {w0:World} {C:Nat->Prop} {L:List (Nat×Value)} {w:World} {o:Oper} {v:Value} {u t:OT}
def TD (P:Program) (ops:Array Oper) (Q:Exit->Act->World->Prop) (ds:List Nat) (C:Nat->Prop) (w0:World) (n i:Nat) (K:List (Nat×Value)->World->Prop) (L:List (Nat×Value)) (w:World):Prop:=
 ∃ o,ops[i]? =some o/\fits o.dst n=true/\((wantB ops L o=some false/\K (putL o.dst undef L) w)\/(wantB ops L o=some true/\∃ post,OpC P o n L w post/\∀ v w',post v w'->(i ∉ ds->Chg w0 w C->Chg w0 w' C)/\K (putL o.dst v L) w'))
def TT (P:Program) (ops:Array Oper) (Q:Exit->Act->World->Prop) (ds:List Nat) (C:Nat->Prop) (w0:World) (n:Nat):Bool->OT->List (Nat×Value)->World->Prop
 | b,.e,L,w=>b=true->∀ a,Fr n L a->Q .normal a w
 | _,.c i s a,L,w=>TD P ops Q ds C w0 n i (TT P ops Q ds C w0 n true s) L w/\TT P ops Q ds C w0 n false a L w
theorem TT.sound (hq:PanicQ Q):∀ (t:OT) (b:Bool) (l:Array Bool) (L:List (Nat×Value)) (w:World) (a:Act) (f:Nat),chkTr ops b l t=true->TT P ops Q ds C w0 n b t L w->Fr n L a->t.depth<=f->
  (b=true->wpAnyLast P .any ops Q (fun w'=>Chg w0 w' C) ds f l a w)/\∀ f',f=f'+1->∀ j ∈ t.heads,wpOp P ops Q j (fun a' w'=>(j ∉ ds->Chg w0 w C->Chg w0 w' C)/\wpAnyLast P .any ops Q (fun w'=>Chg w0 w' C) ds f' (l.setIfInBounds j true) a' w') a w
 | .e,b,l,L,w,a,f,hc,h,ha,hf=>by
  refine ⟨fun hb=>?_,fun f' _ j hj=>by simp [OT.heads] at hj⟩
  subst hb
  exact wpAnyLast_done (by simpa [chkTr] using hc) (h rfl a ha) _
 | .c i s t,b,l,L,w,a,f,hc,h,ha,hf=>by
  simp only [chkTr,Bool.and_eq_true] at hc
  obtain ⟨⟨h1,h2⟩,h3⟩:=hc
  obtain ⟨hd,ht⟩:=h
  simp only [OT.depth] at hf
  have hs:∀ f',f=f'+1->∀ j ∈ (OT.c i s t).heads,wpOp P ops Q j (fun a' w'=>(j ∉ ds->Chg w0 w C->Chg w0 w' C)/\wpAnyLast P .any ops Q (fun w'=>Chg w0 w' C) ds f' (l.setIfInBounds j true) a' w') a w:=by
   intro f' hf' j hj
   rcases List.mem_cons.1 hj with rfl | hj
   ·obtain ⟨o,hi,hft,hk⟩:=hd
    unfold wpOp
    simp only [hi]
    rcases hk with ⟨hw,hk⟩ | ⟨hw,post,hop,hk⟩
    ·rw [if_neg (by rw [wantB_spec hw ha];simp)]
     exact ⟨fun _ h=>h,(TT.sound hq s true _ _ w _ f' h2 hk (ha.putL hft undef) (by omega)).1 rfl⟩
    ·rw [if_pos (wantB_spec hw ha)]
     refine .inl (hop a ha _ _ fun v w' hp=>?_)
     obtain ⟨k1,k2⟩:=hk v w' hp
     exact ⟨k1,(TT.sound hq s true _ _ w' _ f' h2 k2 (ha.putL hft v) (by omega)).1 rfl⟩
   ·exact (TT.sound hq t false l L w a f h3 ht ha (by omega)).2 f' hf' j hj
  refine ⟨fun hb=>?_,hs⟩
  subst hb
  obtain ⟨f',rfl⟩:∃ f',f=f'+1:=⟨f - 1,by omega⟩
  have hr:Region.ready .any ops l=i ::t.heads:=by simpa using h1
  exact wpAnyLast_all hr (by simp [OT.heads]) (hs f' rfl)
theorem WC.drawT {id:Nat} {M:Nat->Prop} (C:Nat->Prop) (st:List Stp) (ds:List Nat) (t:OT) (hm:P.follows .mixedOrders=true) (hq:PanicQ Q) (hs:ops.size=cnt st+t.depth) (hc:chkR ops ds (fun l=>chkTr ops true l t) [] [] st=true) (hM:∀ b,M b->b<w.heap.size)
  (h:∀ w1,Below w.heap.size w w1->DR P ops Q ds (TT P ops Q ds C w1 n true t) C w1 n st [] (fun _=>False) L w1 M):WC P (.region id ops true) Q n L w:=
 WC.drawE (E:=fun w1=>TT P ops Q ds C w1 n true t) (ce:=fun l=>chkTr ops true l t) (tl:=t.depth) C st ds hm hq hs hc (fun w0 l L w a hc h ha=>(TT.sound hq t true l L w a _ hc h ha (Nat.le_refl _)).1 rfl) hM h
theorem TT.one (h:TD P ops Q ds C w0 n i (TT P ops Q ds C w0 n true u) L w):TT P ops Q ds C w0 n true (.c i u .e) L w:=⟨h,fun h=>by cases h⟩
theorem TT.fst (h:TD P ops Q ds C w0 n i (TT P ops Q ds C w0 n true u) L w) (k:TT P ops Q ds C w0 n false t L w) {b:Bool} :TT P ops Q ds C w0 n b (.c i u t) L w:=⟨h,k⟩
theorem TT.last (h:TD P ops Q ds C w0 n i (TT P ops Q ds C w0 n true u) L w):TT P ops Q ds C w0 n false (.c i u .e) L w:=⟨h,fun h=>by cases h⟩
theorem TT.nil (h:∀ a,Fr n L a->Q .normal a w):TT P ops Q ds C w0 n true .e L w:=fun _=>h
variable {K:List (Nat×Value)->World->Prop}
theorem TD.val (hi:ops[i]? =some o) (hw:wantB ops L o=some true) (hd:o.dst=some d) (hn:Nat.blt d n=true) (h:OpV P o n L w v) (k:K ((d,v) ::L) w):TD P ops Q ds C w0 n i K L w:=
 ⟨o,hi,by rw [hd];exact hn,.inr ⟨hw,_,OpV.c h,fun u w' hp=>by obtain ⟨rfl,rfl⟩:=hp;exact ⟨fun _ h=>h,by rw [hd];exact k⟩⟩⟩
theorem TD.s {post:Value->World->Prop} (hi:ops[i]? =some o) (hw:wantB ops L o=some true) (hd:o.dst=none) (hm:ds.contains i=true) (h:OpC P o n L w post) (k:∀ v w',post v w'->K L w'):TD P ops Q ds C w0 n i K L w:=
 ⟨o,hi,by rw [hd];rfl,.inr ⟨hw,post,h,fun v w' hp=>⟨fun hn=>absurd (List.contains_iff_mem.1 hm) hn,by rw [hd];exact k v w' hp⟩⟩⟩
end
end Go.Proofs.Ytgbmmbfminafnaa.E
namespace Go.Proofs.Ytgbmmbfminafnaa.E
open Go Go.RowKit Go.Proofs.YtgbmmbfminafnaaW.PrintLast
end Go.Proofs.Ytgbmmbfminafnaa.E
namespace Go.Proofs.Ytgbmmbfminafnaa.E
open Go Go.RowKit Go.Proofs.YtgbmmbfminafnaaW.PrintLast
end Go.Proofs.Ytgbmmbfminafnaa.E
namespace Go.Proofs.Ytgbmmbfminafnaa.E
open Go Go.RowKit Go.Proofs.YtgbmmbfminafnaaW.PrintLast
variable {ops:Array Oper} {ds:List Nat} {ce:Array Bool->Bool} {lc pend:List Nat} {i:Nat} {r:List Stp}
end Go.Proofs.Ytgbmmbfminafnaa.E
namespace Go.Proofs.Ytgbmmbfminafnaa.E
open Go Go.RowKit
variable {P:Program} {Q:Exit->Act->World->Prop} {n:Nat} {L:List (Nat×Value)} {w:World}
end Go.Proofs.Ytgbmmbfminafnaa.E
namespace Go.Proofs.Ytgbmmbfminafnaa.E
open Go Go.RowKit Go.Proofs.YtgbmmbfminafnaaW.PrintLast
section
variable {P:Program} {o:Oper} {n:Nat} {L:List (Nat×Value)} {w w0:World} {x y:Operand} {T e:TypeId} {Wr Wf M M0:Nat->Prop} {k:IntKind}
end
section
variable {α:Type} {a:Kd α} {Wr X M:Nat->Prop} {w:World} {e:TypeId} {v:Value} {A:Option Addr} {xss:List (List α)}
end
section
variable {P:Program} {Q:Exit->Act->World->Prop} {n:Nat} {L:List (Nat×Value)} {w:World}
theorem PanicQ.noGoto (h:PanicQ Q):PanicQ (Exit.noGoto Q):=fun c a d u w k=>h c a d u w k
instance pq4 [h:PQ Q]:PQ (Exit.noGoto Q):=⟨PanicQ.noGoto h.h⟩
instance ly4 {Q0:Exit->Act->World->Prop} [h:Ly Q Q0]:Ly (Exit.noGoto Q) Q0:=⟨fun a w k=>h.h a w k⟩
theorem wlab {l:Nat} (h:∀ a,Fr n L a->Q .normal a w):WC P (.label l) Q n L w:=fun a ha=>wp_label (h a ha)
theorem wsc {c:Code} (h:WC P c (Exit.noGoto Q) n L w):WC P (.scope c) Q n L w:=fun a ha=>wp_scope_straight (h a ha)
end
section
variable {P:Program} {o:Oper} {n:Nat} {L:List (Nat×Value)} {w w0:World} {x y:Operand} {T e:TypeId} {Wr Wf M M0:Nat->Prop} {α:Type} {a:Kd α} {u v:Value}
theorem o_stP [Inhabited α] {xs:List α} {g off cap m j:Nat} {i:Int} {y':α} {c:List Value} (ho:o.op= .store T x y) (hx:ev L x=some (.pointer (some ⟨g,off,none⟩))) (hy:ev L y=some u) (hs:(P.info? T).map (·.size)=some u.cells.toList.length) (hO:Own Wf M w a e v xs) (hW:∀ b,Wf b->Wr b) (hv:v= .slice (some ⟨g,0,none⟩) m cap) (hoff:off=0+i.toNat*a.sz+j) (hj:j+u.cells.toList.length<=a.sz) (h0:0<=i) (h1:i<xs.length)
  (h1c:∀ z ∈ u.cells.toList,z.oneCell'=true) (hc:At w g (0+i.toNat*a.sz) c) (hcl:c.length=a.sz) (hr:a.R M w y' (c.take j ++ u.cells.toList ++ c.drop (j+u.cells.toList.length))) (hS:St Wr w0 M0 w M) :
  OpC P o n L w (fun _ w'=>Own Wf M w' a e v (xs.set i.toNat y')/\St Wr w0 M0 w' M/\Step M w M w'/\w.grownBy w' v.ownBlock):=by
 refine OpC.mono (p:=fun _ w'=>Own Wr M w' a e v (xs.set i.toNat y')/\St Wr w0 M0 w' M/\Step M w M w'/\w.grownBy w' v.ownBlock) ?_ fun _ _ h=>⟨h.1.reW fun b hb=>(hO.inB b hb).2,h.2⟩
 have hO:=hO.wk hW
 intro act ha K Q hK
 obtain ⟨inf,hinf,hz⟩:=Option.map_eq_some_iff.1 hs
 obtain ⟨hlo,cs,h2,h3,h4⟩:=hO
 have hi:i.toNat<xs.length:=by omega
 obtain ⟨pre,c0,post,hcs,hp,hrc,hset⟩:=h3.at_ i.toNat hi
 rcases h2.2 with ⟨hv',hn⟩ | ⟨g',cap',cur,hv',_,hh,h5,h6,h7,h8⟩
 ·omega
 ·rw [hv'] at hv
  injection hv with hv1 hv2 hv3
  injection hv1 with hv1
  injection hv1 with hv1
  subst hv1
  have hcl0:c0.length=a.sz:=a.len hrc
  have hlen:(i.toNat+1)*a.sz<=xs.length*a.sz:=Nat.mul_le_mul_right _ (by omega)
  have hcap:xs.length*a.sz<=cap'*a.sz:=Nat.mul_le_mul_right _ h5
  rw [Nat.add_mul,Nat.one_mul] at hlen
  have hcur:cur.toList=pre ++ c0 ++ post ++ cur.toList.drop (xs.length*a.sz):=by rw [<- hcs,<- h8,List.take_append_drop]
  have hcc:c=c0:=by
   apply List.ext_getElem?
   intro q
   by_cases hq:q<a.sz
   ·have e1 : c[q]? = some (c[q]'(by omega)) := List.getElem?_eq_getElem (by omega)
    have e2:=hc q _ e1
    have e3 : c0[q]? = some (c0[q]'(by omega)) := List.getElem?_eq_getElem (by omega)
    have e4:cur.toList[i.toNat*a.sz+q]? =c0[q]?:=by
     rw [hcur,List.append_assoc,List.append_assoc,List.getElem?_append_right (by omega),hp,Nat.add_sub_cancel_left,List.getElem?_append_left (by omega)]
    have e5:=At.of_row hh (i.toNat*a.sz+q) _ (e4.trans e3)
    rw [show 0+i.toNat*a.sz+q=0+(i.toNat*a.sz+q) by omega] at e2
    rw [e1,e3]
    exact e2.symm.trans e5
   ·rw [List.getElem?_eq_none (by omega),List.getElem?_eq_none (by omega)]
  subst hcc
  have hul:u.cells.toList.length+j<=a.sz:=by omega
  have hst:=run_storeCells_at P g' off e u.cells.toList 0 cur w hh (by rw [h7,hoff];omega) h1c
  have hop:(execOp act.eval o).run P w= .ok .skip (w.setRow g' (cur.toList.take (off+0) ++ u.cells.toList ++ cur.toList.drop (off+0+u.cells.toList.length)).toArray):=by
   simp only [execOp,ho,ha.ev hx,ha.ev hy,Instr.storeAt,Instr.sureAddr,Sem.run_bind,Sem.run_pure,Result.andThen_ok,storeVar,sizeOf,typeInfo,run_program,hinf,hz]
   have: ¬ (u.cells.size≠u.cells.toList.length):=by simp
   simp only [this,if_false,hst,Result.andThen_ok]
  unfold Oper.wp
  rw [hop,Oper.upon_skip]
  have hg:=grown_setRow w g' (cur.toList.take (off+0) ++ u.cells.toList ++ cur.toList.drop (off+0+u.cells.toList.length)).toArray
  have hob:v.ownBlock=some g':=by rw [hv'];rfl
  have hstep:Step M w M (w.setRow g' (cur.toList.take (off+0) ++ u.cells.toList ++ cur.toList.drop (off+0+u.cells.toList.length)).toArray):=⟨hg.size,fun b hb hn=>hg.block b hb (fun e=>hn (by injection e with e;rw [e];exact (h4 g' hob).1)),fun _ h=>.inl h⟩
  have hnl:(c.take j ++ u.cells.toList ++ c.drop (j+u.cells.toList.length)).length=a.sz:=by
   simp only [List.length_append,List.length_take,List.length_drop,hcl]
   omega
  refine hK _ _ ⟨⟨by simpa using hlo,pre ++ (c.take j ++ u.cells.toList ++ c.drop (j+u.cells.toList.length)) ++ post,⟨?_,.inr ⟨g',cap',_,?_,Nat.zero_le _,setRow_heap w g' cur _ e (0,0) hh,?_,h6,?_,?_⟩⟩,hset M _ y' _ hstep (a.to hr hstep),h4⟩,⟨hS.eff.grown hg (fun b hb=>by injection hb with hb;rw [<- hb];exact (h4 g' hob).2),hS.step.trans hstep,hS.inc,fun b h=>Nat.lt_of_lt_of_le (hS.lt b h) hg.size⟩,hstep,by rw [hob];exact hg⟩
  ·have:=h2.1
   rw [hcs] at this
   rw [List.length_append,List.length_append,hnl,List.length_set]
   simp only [List.length_append,hcl] at this
   exact this
  ·rw [hv',List.length_set]
  ·simpa using h5
  ·have hcl2:cur.toList.length=cap'*a.sz:=by rw [Array.length_toList];exact h7
   simp only [List.size_toArray,List.length_append,List.length_take,List.length_drop,hcl2,hoff]
   omega
  ·have e1:cur.toList.take (off+0)=pre ++ c.take j:=by
    rw [hcur,hoff,Nat.zero_add,Nat.add_zero,<- hp,List.append_assoc,List.append_assoc,List.take_length_add_append,List.take_append_of_le_length (by omega)]
   have e2:cur.toList.drop (off+0+u.cells.toList.length)=c.drop (j+u.cells.toList.length) ++ (post ++ cur.toList.drop (xs.length*a.sz)):=by
    conv=>lhs;rw [hcur]
    rw [hoff,Nat.zero_add,Nat.add_zero,Nat.add_assoc,<- hp,List.append_assoc,List.append_assoc,List.drop_length_add_append,List.drop_append_of_le_length (by omega)]
   rw [e1,e2,List.length_set]
   have e3:pre ++ c.take j ++ u.cells.toList ++ (c.drop (j+u.cells.toList.length) ++ (post ++ cur.toList.drop (xs.length*a.sz)))=(pre ++ (c.take j ++ u.cells.toList ++ c.drop (j+u.cells.toList.length)) ++ post) ++ cur.toList.drop (xs.length*a.sz):=by simp only [List.append_assoc]
   rw [e3]
   refine List.take_left' ?_
   have:=h2.1
   rw [hcs] at this
   rw [List.length_append,List.length_append,hnl]
   simp only [List.length_append,hcl] at this
   exact this
end
theorem B1.len {A:Option Addr} {m k c b:Nat} (h:B1 (.slice A m c) b):B1 (.slice A k c) b:=by cases A <;> exact h
theorem Chg.fresh {w w1 w2:World} {C:Nat->Prop} {b:Nat} (h:Chg w w1 C) (k:w1.grownBy w2 (some b)) (hb:w.heap.size<=b):Chg w w2 C:=⟨Nat.le_trans h.size k.size,fun x hx hn=>(k.block x (Nat.lt_of_lt_of_le hx h.size) (fun e=>by injection e with e;omega)).trans (h.block x hx hn)⟩
theorem At.sub2 {w:World} {b k o0:Nat} {all cs:List Value} (off:Nat) (h:At w b o0 all) (he:(all.drop off).take k=cs):At w b (o0+off) cs:=fun j u hu=>by
 subst he
 have h2:all[off+j]? =some u:=by
  rw [List.getElem?_take] at hu
  split at hu
  ·rw [List.getElem?_drop] at hu;exact hu
  ·cases hu
 have:=h (off+j) u h2
 rwa [<- Nat.add_assoc] at this
end Go.Proofs.Ytgbmmbfminafnaa.E
