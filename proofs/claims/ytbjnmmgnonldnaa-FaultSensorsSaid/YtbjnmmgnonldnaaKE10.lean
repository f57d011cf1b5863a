/- The engine, part 10: shorter words for the walks. No program text. -/
import Derived.Test.YtbjnmmgnonldnaaKE9
import Derived.KernelRfl
set_option linter.unusedVariables false
set_option linter.unusedSimpArgs false
namespace Go.Proofs.Ytbjnmmgnonldnaa.E
open Go Go.RowKit
abbrev A6 (x:Int):Prop:=InK .i64 x
abbrev U6 (x:Int):Prop:=InK .u64 x
abbrev L4 {α:Type} (x:List α):Prop:=x.length<=281474976710656
abbrev F (w:World):Nat->Prop:=fun b=>w.heap.size<=b
theorem int_o {k:IntKind} {M:Nat->Prop} {w:World} {x:Int} {u:Value} (h:(Kd.int k).R M w x [u]):u= .int k x/\InK k x:=by
 obtain ⟨hq,h⟩:=h
 simp only [List.cons.injEq,and_true] at hq
 exact ⟨hq,h⟩
theorem sl_o {α:Type} {a:Kd α} {M:Nat->Prop} {w:World} {xs:List α} {u:Value} (h:(Kd.slice a).R M w xs [u]):∃ (A:Option Addr) (c:Nat),u= .slice A xs.length c/\xs.length<=c/\xs.length<=281474976710656/\Rd a M w A xs:=by
 obtain ⟨A,c,hq,h⟩:=h
 simp only [List.cons.injEq,and_true] at hq
 exact ⟨A,c,hq,h⟩
abbrev Bd (M:Nat->Prop) (w:World):Prop:=∀ b,M b->b<w.heap.size
theorem fI {X:Nat->Prop} :∀ b,X b->X b:=fun _ h=>h
theorem sb (M:Nat->Prop) {w w':World} (h:Below w.heap.size w w'):Step M w M w':=Step.below h
theorem en {P:Program} {f:FuncId} {fn:Func} {c:Code} {w:World} {R:Ending->World->Prop} {n:Nat} {vs:List Value} (hf:P.funcs[f]? =some fn) (hn:fn.ntmps=n) (h:WC P c (bodyPost P fn R) n (enumL 0 vs) w) (hb:fn.body=some c:=by rfl) (hle:Nat.ble vs.length n=true:=by rfl):Calls P f vs.toArray w R:=enter vs hf hb hn hle fun a ha=>WC.start ha h
theorem lI {α:Type} {x:List α} (h:L4 x):A6 (x.length:Int):=by omega
section
variable {P:Program} {ops:Array Oper} {Q:Exit->Act->World->Prop} {o:Oper} {rest:List Oper} {n d:Nat} {L L':List (Nat×Value)} {w:World} {v:Value} {p q:Int} {k k':IntKind} {x y z:Operand} {T T' e:TypeId}
theorem va (h:OpV P o n L w v) (k:WL P ops Q rest n ((d,v) ::L) w) (hw:wantB ops L o=some true:=by rfl) (hd:o.dst=some d:=by rfl) (hn:Nat.blt d n=true:=by rfl):WL P ops Q (o ::rest) n L w:=WL.val h hw hd hn k
theorem vb {b b':Bool} (h:OpV P o n L w (.bool b)) (hb:b=b') (k:WL P ops Q rest n ((d,.bool b') ::L) w) (hw:wantB ops L o=some true:=by rfl) (hd:o.dst=some d:=by rfl) (hn:Nat.blt d n=true:=by rfl):WL P ops Q (o ::rest) n L w:=WL.b h hw hd hn hb k
theorem vc {post:Value->World->Prop} (h:OpC P o n L w post) (k:∀ v w',post v w'->WL P ops Q rest n ((d,v) ::L) w') (hw:wantB ops L o=some true:=by rfl) (hd:o.dst=some d:=by rfl) (hn:Nat.blt d n=true:=by rfl):WL P ops Q (o ::rest) n L w:=WL.c h hw hd hn k
theorem vs {post:Value->World->Prop} (h:OpC P o n L w post) (k:∀ v w',post v w'->WL P ops Q rest n L w') (hw:wantB ops L o=some true:=by rfl) (hd:o.dst=none:=by rfl):WL P ops Q (o ::rest) n L w:=WL.s h hw hd k
theorem vo (k:WL P ops Q rest n (putL o.dst undef L) w) (hw:wantB ops L o=some false:=by rfl) (hn:fits o.dst n=true:=by rfl):WL P ops Q (o ::rest) n L w:=WL.off hw hn k
theorem nl (h:∀ a,Fr n L a->Q .normal a w):WL P ops Q [] n L w:=h
theorem wq {x c:Code} (h:∀ K:Act->World->Prop,(∀ {L'} {w'},WC P c Q n L' w'->∀ a,Fr n L' a->K a w')->WC P x (Exit.then K Q) n L w):WC P (.seq x c) Q n L w:=WC.seq fun K hK=>h K fun {_} {_}=>hK _ _
theorem wk (h:∀ a,Fr n L a->Q .normal a w):WC P .skip Q n L w:=WC.skip h
theorem wb {id:Nat} {c:Code} (h:WC P c (Exit.inBlock id Q) n L w):WC P (.block id c) Q n L w:=WC.block h
theorem wr {id:Nat} {l:List Oper} (h:WL P l.toArray Q l n L w):WC P (.region id l.toArray false) Q n L w:=WC.region h
theorem we {id:Nat} (h:∀ a,Fr n L a->Q (.exit id) a w):WC P (.exit id) Q n L w:=WC.exit h
theorem sq {id:Nat} {l:List Oper} {c:Code} (h:∀ K:Act->World->Prop,(∀ {L'} {w'},WC P c Q n L' w'->∀ a,Fr n L' a->K a w')->WL P l.toArray (Exit.then K Q) l n L w):WC P (.seq (.region id l.toArray false) c) Q n L w:=WC.seq fun K hK=>WC.region (h K fun {_} {_}=>hK _ _)
theorem ys {c:Operand} {x y:Code} (h:WC P x Q n L w) (hc:ev L c=some (.bool true):=by rfl):WC P (.cond c x y) Q n L w:=WC.yes hc h
theorem ns {c:Operand} {x y:Code} (h:WC P y Q n L w) (hc:ev L c=some (.bool false):=by rfl):WC P (.cond c x y) Q n L w:=WC.no hc h
theorem mv_ (ho:o.op= .move x:=by rfl) (hx:ev L x=some v:=by rfl):OpV P o n L w v:=o_mv ho hx
theorem as_ (ho:o.op= .assign x:=by rfl) (hx:ev L x=some v:=by rfl):OpV P o n L w v:=o_as ho hx
theorem pkt_ (ho:o.op= .pick x y z:=by rfl) (hx:ev L x=some (.bool true):=by rfl) (hy:ev L y=some v:=by rfl):OpV P o n L w v:=o_pkt ho hx hy
theorem pkf_ (ho:o.op= .pick x y z:=by rfl) (hx:ev L x=some (.bool false):=by rfl) (hy:ev L z=some v:=by rfl):OpV P o n L w v:=o_pkf ho hx hy
theorem not_ {b:Bool} (ho:o.op= .unOp .not T x:=by rfl) (hx:ev L x=some (.bool b):=by rfl):OpV P o n L w (.bool (!b)):=o_not ho hx
theorem ex_ {vs:Array Value} {i:Nat} (ho:o.op= .extract x i:=by rfl) (hx:ev L x=some (.tuple vs):=by rfl) (hv:vs[i]? =some v:=by rfl):OpV P o n L w v:=o_ex ho hx hv
theorem eq_ (ho:o.op= .binOp .eql T x y T':=by rfl) (hx:ev L x=some (.int k p):=by rfl) (hy:ev L y=some (.int k q):=by rfl):OpV P o n L w (.bool (decide (p=q))):=o_eq ho hx hy
theorem ne_ (ho:o.op= .binOp .neq T x y T':=by rfl) (hx:ev L x=some (.int k p):=by rfl) (hy:ev L y=some (.int k q):=by rfl):OpV P o n L w (.bool (decide (p≠q))):=o_ne ho hx hy
theorem lt_ (ho:o.op= .binOp .lss T x y T':=by rfl) (hx:ev L x=some (.int k p):=by rfl) (hy:ev L y=some (.int k q):=by rfl):OpV P o n L w (.bool (decide (p<q))):=o_lt ho hx hy
theorem le_ (ho:o.op= .binOp .leq T x y T':=by rfl) (hx:ev L x=some (.int k p):=by rfl) (hy:ev L y=some (.int k q):=by rfl):OpV P o n L w (.bool (decide (p<=q))):=o_le ho hx hy
theorem gt_ (ho:o.op= .binOp .gtr T x y T':=by rfl) (hx:ev L x=some (.int k p):=by rfl) (hy:ev L y=some (.int k q):=by rfl):OpV P o n L w (.bool (decide (p>q))):=o_gt ho hx hy
theorem ge_ (ho:o.op= .binOp .geq T x y T':=by rfl) (hx:ev L x=some (.int k p):=by rfl) (hy:ev L y=some (.int k q):=by rfl):OpV P o n L w (.bool (decide (p>=q))):=o_ge ho hx hy
theorem addi_ (h:I64 (p+q)) (ho:o.op= .binOp .add T x y T':=by rfl) (hx:ev L x=some (.int .i64 p):=by rfl) (hy:ev L y=some (.int .i64 q):=by rfl):OpV P o n L w (.int .i64 (p+q)):=o_addi ho hx hy h
theorem subi_ (h:I64 (p - q)) (ho:o.op= .binOp .sub T x y T':=by rfl) (hx:ev L x=some (.int .i64 p):=by rfl) (hy:ev L y=some (.int .i64 q):=by rfl):OpV P o n L w (.int .i64 (p - q)):=o_subi ho hx hy h
theorem or_ (ho:o.op= .binOp .or T x y T':=by rfl) (hx:ev L x=some (.int k p):=by rfl) (hy:ev L y=some (.int k q):=by rfl):OpV P o n L w (.int k (ior k p q)):=o_or ho hx hy
theorem and_ (ho:o.op= .binOp .and T x y T':=by rfl) (hx:ev L x=some (.int k p):=by rfl) (hy:ev L y=some (.int k q):=by rfl):OpV P o n L w (.int k (iand k p q)):=o_and ho hx hy
theorem len_ {c:Call} {A:Option Addr} {m cap:Nat} (hu:P.underlying T=some (.slice e)) (ho:o.op= .call c:=by rfl) (hc:c.callee= .builtin .len:=by rfl) (has:c.args= #[x]:=by rfl) (hat:c.argTypes= #[T]:=by rfl) (hx:ev L x=some (.slice A m cap):=by rfl):OpV P o n L w (.int .i64 (m:Int)):=o_len ho hc has hat hu hx
theorem call_ {c:Call} {f:FuncId} {xs:List Operand} {vs:List Value} {post:Value->World->Prop} (hf:callable P f=true) (h:Calls P f vs.toArray w (fun e w'=>∃ v,e= .returned v/\post v w')) (ho:o.op= .call c:=by rfl) (hc:c.callee= .value (.func f):=by rfl) (has:c.args=xs.toArray:=by rfl) (hv:evs L xs=some vs:=by rfl):OpC P o n L w post:=o_call ho hc has hv hf h
theorem xa (h:OpV P o n L w v) (hw:wantB ops L o=some true:=by rfl) (hd:o.dst=some d:=by rfl) (hn:Nat.blt d n=true:=by rfl) (k:WL P ops Q rest n ((d,v) ::L) w):WL P ops Q (o ::rest) n L w:=va (h:=h) (hw:=hw) (hd:=hd) (hn:=hn) (k:=k)
theorem xb {b b':Bool} (h:OpV P o n L w (.bool b)) (hb:b=b') (hw:wantB ops L o=some true:=by rfl) (hd:o.dst=some d:=by rfl) (hn:Nat.blt d n=true:=by rfl) (k:WL P ops Q rest n ((d,.bool b') ::L) w):WL P ops Q (o ::rest) n L w:=vb (h:=h) (hb:=hb) (hw:=hw) (hd:=hd) (hn:=hn) (k:=k)
theorem xo (hw:wantB ops L o=some false:=by rfl) (hn:fits o.dst n=true:=by rfl) (k:WL P ops Q rest n (putL o.dst undef L) w):WL P ops Q (o ::rest) n L w:=vo (hw:=hw) (hn:=hn) (k:=k)
theorem xy {c:Operand} {x y:Code} (hc:ev L c=some (.bool true):=by rfl) (k:WC P x Q n L w):WC P (.cond c x y) Q n L w:=ys (hc:=hc) (h:=k)
theorem xn {c:Operand} {x y:Code} (hc:ev L c=some (.bool false):=by rfl) (k:WC P y Q n L w):WC P (.cond c x y) Q n L w:=ns (hc:=hc) (h:=k)
class PQ (Q:Exit->Act->World->Prop):Prop where
 h:PanicQ Q
instance pq1 {K:Act->World->Prop} [h:PQ Q]:PQ (Exit.then K Q):=⟨PanicQ.then h.h⟩
instance pq2 {id:Nat} [h:PQ Q]:PQ (Exit.inBlock id Q):=⟨PanicQ.block h.h⟩
instance pq3 {fn:Func} {R:Ending->World->Prop} :PQ (bodyPost P fn R):=⟨PanicQ.body⟩
class Ly (Q:Exit->Act->World->Prop) (Q0:outParam (Exit->Act->World->Prop)):Prop where
 h:∀ a w,Q0 .ret a w->Q .ret a w
instance ly1 {K:Act->World->Prop} {Q0:Exit->Act->World->Prop} [h:Ly Q Q0]:Ly (Exit.then K Q) Q0:=⟨fun a w k=>h.h a w k⟩
instance ly2 {id:Nat} {Q0:Exit->Act->World->Prop} [h:Ly Q Q0]:Ly (Exit.inBlock id Q) Q0:=⟨fun a w k=>h.h a w k⟩
instance ly3 {fn:Func} {R:Ending->World->Prop} :Ly (bodyPost P fn R) (bodyPost P fn R):=⟨fun _ _ k=>k⟩
section
variable {fn:Func} {R:Ending->World->Prop} [hl:Ly Q (bodyPost P fn R)] {v1 v2 v3 v4:Value} {r r1 r2 r3 r4:ResultVar}
theorem rx1 (hv:RV P L w r v) (h:R (.returned v) w) (hr:fn.results= #[r]:=by rfl):WC P .ret Q n L w:=WC.ret fun a ha=>hl.h a w (rt1 ha hr hv h)
theorem rx2 (h1:RV P L w r1 v1) (h2:RV P L w r2 v2) (h:R (.returned (.tuple #[v1,v2])) w) (hr:fn.results= #[r1,r2]:=by rfl):WC P .ret Q n L w:=WC.ret fun a ha=>hl.h a w (rt2 ha hr h1 h2 h)
theorem rx3 (h1:RV P L w r1 v1) (h2:RV P L w r2 v2) (h3:RV P L w r3 v3) (h:R (.returned (.tuple #[v1,v2,v3])) w) (hr:fn.results= #[r1,r2,r3]:=by rfl):WC P .ret Q n L w:=WC.ret fun a ha=>hl.h a w (rt3 ha hr h1 h2 h3 h)
end
theorem dr {ops:Array Oper} {id:Nat} {L:List (Nat×Value)} {w:World} {M:Nat->Prop} (C:Nat->Prop) (st:List Stp) (ds tail:List Nat) (hm:P.follows .mixedOrders=true) (hM:∀ b,M b->b<w.heap.size) (h:∀ w1,Below w.heap.size w w1->DR P ops Q ds (DT P ops Q ds C w1 n tail) C w1 n st [] (fun _=>False) L w1 M) [hq:PQ Q] (hs:ops.size=cnt st+tail.length:=by rfl) (hc:chkR ops ds (fun l=>chkT ops l tail) [] [] st=true:=by kernel_rfl):WC P (.region id ops true) Q n L w:=WC.drawR C st ds tail hm hq.h hs hc hM h
def SubL (L:List (Nat×Value)):List (Nat×Value)->Prop
 | []=>True
 | (t,v) ::l=>lk L t=some v/\SubL L l
theorem fs {a:Act} (h:Fr n L a) (hs:SubL L L':=by repeat' constructor):Fr n L' a:=by
 induction L' with
 | nil=>exact h.nil
 | cons x l ih=>obtain ⟨t,v⟩:=x;exact Fr.keep h hs.1 (ih hs.2)
end
section
variable {P:Program} {ops:Array Oper} {Q:Exit->Act->World->Prop} {ds:List Nat} {tail:List Nat} {E:List (Nat×Value)->World->Prop} {C:Nat->Prop} {w0 w:World} {n d i:Nat} {r:List Stp} {pend:List Late} {had:Nat->Prop} {L:List (Nat×Value)} {M:Nat->Prop} {v:Value}
def opAt (ops : Array Oper) (i : Nat) : Oper := ops.toList.getD i { dst := none, op := .move (.const (.bool false)), type := 0, pos := "", after := #[], guard := none }
theorem da (h:∀ w',Chg w0 w' C->OpV P (opAt ops i) n L w' v) (k:DR P ops Q ds E C w0 n r pend had ((d,v) ::L) w M) (hi:ops[i]? =some (opAt ops i):=by rfl) (hw:wantB ops L (opAt ops i)=some true:=by rfl) (hd:(opAt ops i).dst=some d:=by rfl) (hn:Nat.blt d n=true:=by rfl) (hp:pOk pend (some d)=true:=by rfl):DR P ops Q ds E C w0 n (.take i ::r) pend had L w M:=DR.val hi hw hd hn hp h k
theorem xd (h:∀ w',Chg w0 w' C->OpV P (opAt ops i) n L w' v) (hi:ops[i]? =some (opAt ops i):=by rfl) (hw:wantB ops L (opAt ops i)=some true:=by rfl) (hd:(opAt ops i).dst=some d:=by rfl) (hn:Nat.blt d n=true:=by rfl) (hp:pOk pend (some d)=true:=by rfl) (k:DR P ops Q ds E C w0 n r pend had ((d,v) ::L) w M):DR P ops Q ds E C w0 n (.take i ::r) pend had L w M:=da (h:=h) (hi:=hi) (hw:=hw) (hd:=hd) (hn:=hn) (hp:=hp) (k:=k)
theorem dc (h:∃ post,OpC P (opAt ops i) n L w post/\∀ v w',post v w'->∃ M',(Below w.heap.size w w'/\∀ b,M' b->b<w'.heap.size)/\DR P ops Q ds E C w0 n r pend (hadC had w w') ((d,v) ::L) w' M') (he:pend= []:=by rfl) (hi:ops[i]? =some (opAt ops i):=by rfl) (hw:wantB ops L (opAt ops i)=some true:=by rfl) (hd:(opAt ops i).dst=some d:=by rfl) (hn:Nat.blt d n=true:=by rfl) (hp:pOk pend (some d)=true:=by rfl):DR P ops Q ds E C w0 n (.call i ::r) pend had L w M:=DR.c0 he hi hw hd hn hp h
theorem tz {t:List Nat} {post:Value->World->Prop} (h:OpC P (opAt ops i) n L w post) (k:∀ v w',post v w'->DT P ops Q ds C w0 n t L w') (hi:ops[i]? =some (opAt ops i):=by rfl) (hw:wantB ops L (opAt ops i)=some true:=by rfl) (hd:(opAt ops i).dst=none:=by rfl) (hm:ds.contains i=true:=by rfl):DT P ops Q ds C w0 n (i ::t) L w:=DT.s hi hw hd hm h k
theorem de (k:E L w):DR P ops Q ds E C w0 n [] pend had L w M:=DR.end_ k
theorem dn (h:∀ a,Fr n L a->Q .normal a w):DT P ops Q ds C w0 n [] L w:=DT.nil h
end
section
variable {α:Type} {a:Kd α} {Wr M M':Nat->Prop} {w w':World} {e e1 e2:TypeId} {v:Value} {us:List Value} {xs:List α} {xss:List (List α)} {b c:Nat} {T:TypeId} {cs:Array Value}
theorem Own.kb (h:Own Wr M w a e v xs) (hb:Below w.heap.size w w') (hs:Step M w M w'):Own Wr M w' a e v xs:=h.keptC (Chg.below hb) Dis.emp hs (fun _ h=>h)
theorem Mb.kb (h:Mb Wr M w b T cs) (hb:Below w.heap.size w w'):Mb Wr M w' b T cs:=h.keptC (Chg.below hb) Dis.emp (fun _ h=>h)
theorem Mb.kg (h:Mb Wr M w b T cs) (hg:Grow w M w' M'):Mb Wr M' w' b T cs:=h.keptC (Chg.below hg.below) Dis.emp hg.inc
theorem Mb.ki (h:Mb Wr M w b T cs) (hb:Below w.heap.size w w') (hi:∀ b,M b->M' b):Mb Wr M' w' b T cs:=h.keptC (Chg.below hb) Dis.emp hi
theorem Own.kg (h:Own Wr M w a e v xs) (hg:Grow w M w' M') (hs:Step M w M' w'):Own Wr M' w' a e v xs:=h.keptC (Chg.below hg.below) Dis.emp hs hg.inc
theorem Own.ki (h:Own Wr M w a e v xs) (hb:Below w.heap.size w w') (hs:Step M w M' w') (hi:∀ b,M b->M' b):Own Wr M' w' a e v xs:=h.keptC (Chg.below hb) Dis.emp hs hi
theorem Own.kc (h:Own Wr M w a e v xs) (hg:w.grownBy w' (some c)) (hd:Dis (B1 v) (Bb c)) (hs:Step M w M w'):Own Wr M w' a e v xs:=h.keptC (Chg.bb hg) hd hs (fun _ h=>h)
theorem Mb.kc (h:Mb Wr M w b T cs) (hg:w.grownBy w' (some c)) (hd:Dis (Bb b) (Bb c)):Mb Wr M w' b T cs:=h.keptC (Chg.bb hg) hd (fun _ h=>h)
end
end Go.Proofs.Ytbjnmmgnonldnaa.E
