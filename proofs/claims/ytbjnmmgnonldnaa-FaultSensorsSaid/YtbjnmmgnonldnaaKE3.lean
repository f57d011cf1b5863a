/- The engine, part 3: memory: what is kept, what is read, boxes, calls. No program text. -/
import Derived.Test.YtbjnmmgnonldnaaKE2
import Derived.Laws.CopyRow
import Derived.Laws.MakeOwn
import Derived.Laws.AppendOwn
import Derived.Laws.OwnMore
import Derived.Maps.AppendAt
namespace Go.Proofs.Ytbjnmmgnonldnaa.E
open Go Go.RowKit
structure Step (M:Nat->Prop) (w:World) (M':Nat->Prop) (w':World):Prop where
 size:w.heap.size<=w'.heap.size
 block:∀ b,b<w.heap.size->¬ M b->w'.heap[b]? =w.heap[b]?
 sub:∀ b,M' b->M b\/w.heap.size<=b
theorem Step.refl (M:Nat->Prop) (w:World):Step M w M w:=⟨Nat.le_refl _,fun _ _ _=>rfl,fun _ h=>.inl h⟩
theorem Step.trans {M M' M'':Nat->Prop} {w w' w'':World} (h:Step M w M' w') (k:Step M' w' M'' w''):Step M w M'' w'':=
 ⟨Nat.le_trans h.size k.size,
  fun b hb hn=>(k.block b (Nat.lt_of_lt_of_le hb h.size) (fun hm=>(h.sub b hm).elim hn (fun hl=>by omega))).trans (h.block b hb hn),
  fun b hb=>(k.sub b hb).elim (fun hm=>h.sub b hm) (fun hl=>.inr (Nat.le_trans h.size hl))⟩
theorem Step.below {M:Nat->Prop} {w w':World} (h:Below w.heap.size w w'):Step M w M w':=⟨h.size,fun b hb _=>h.block b hb,fun _ h=>.inl h⟩
theorem Step.weak {M M':Nat->Prop} {w:World} (h:∀ b,M' b->M b):Step M w M' w:=⟨Nat.le_refl _,fun _ _ _=>rfl,fun b hb=>.inl (h b hb)⟩
structure Eff (Wr:Nat->Prop) (w0 w:World):Prop where
 os:w.os=w0.os
 tape:w.tape=w0.tape
 output:w.output=w0.output
 size:w0.heap.size<=w.heap.size
 block:∀ b,b<w0.heap.size->¬ Wr b->w.heap[b]? =w0.heap[b]?
theorem Eff.refl (Wr:Nat->Prop) (w:World):Eff Wr w w:=⟨rfl,rfl,rfl,Nat.le_refl _,fun _ _ _=>rfl⟩
theorem Eff.below {Wr:Nat->Prop} {w0 w w':World} (h:Eff Wr w0 w) (k:Below w.heap.size w w'):Eff Wr w0 w':=
 ⟨k.os.trans h.os,k.tape.trans h.tape,k.output.trans h.output,Nat.le_trans h.size k.size,fun b hb hn=>(k.block b (Nat.lt_of_lt_of_le hb h.size)).trans (h.block b hb hn)⟩
theorem Eff.grown {Wr:Nat->Prop} {w0 w w':World} {row:Option Nat} (h:Eff Wr w0 w) (k:w.grownBy w' row) (hr:∀ b,row=some b->Wr b):Eff Wr w0 w':=
 ⟨k.os.trans h.os,k.tape.trans h.tape,k.output.trans h.output,Nat.le_trans h.size k.size,fun b hb hn=>(k.block b (Nat.lt_of_lt_of_le hb h.size) (fun e=>hn (hr b e.symm))).trans (h.block b hb hn)⟩
theorem Eff.out {w0 w:World} (h:Eff (fun b=>w0.heap.size<=b) w0 w):Below w0.heap.size w0 w:=⟨h.os,h.tape,h.output,h.size,fun b hb=>h.block b hb (by omega)⟩
structure St (Wr:Nat->Prop) (w0:World) (M0:Nat->Prop) (w:World) (M:Nat->Prop):Prop where
 eff:Eff Wr w0 w
 step:Step M0 w0 M w
 inc:∀ b,M0 b->M b
 lt:∀ b,M b->b<w.heap.size
theorem St.init {Wr:Nat->Prop} {w:World} {M:Nat->Prop} (h:∀ b,M b->b<w.heap.size):St Wr w M w M:=⟨Eff.refl _ _,Step.refl _ _,fun _ h=>h,h⟩
theorem St.below {Wr M0 M:Nat->Prop} {w0 w w':World} (h:St Wr w0 M0 w M) (k:Below w.heap.size w w'):St Wr w0 M0 w' M:=
 ⟨h.eff.below k,h.step.trans (Step.below k),h.inc,fun b hb=>Nat.lt_of_lt_of_le (h.lt b hb) k.size⟩
theorem below_alloc1 (w:World) (o:Obj):Below w.heap.size w (w.alloc o):=(Below.refl _ _).alloc (Nat.le_refl _) o
theorem below_drew1 (w:World):Below w.heap.size w w.drew:=(Below.refl _ _).drew
structure Kd (α:Type) where
 sz:Nat
 R:(Nat->Prop)->World->α->List Value->Prop
 len:∀ {M w x cs},R M w x cs->cs.length=sz
 one:∀ {M w x cs},R M w x cs->∀ u ∈ cs,u.oneCell'=true
 to:∀ {M w M' w' x cs},R M w x cs->Step M w M' w'->R M' w' x cs
namespace Kd
def int (k:IntKind):Kd Int where
 sz:=1
 R _ _ x cs:=cs= [.int k x]/\InK k x
 len h:=by rw [h.1];rfl
 one h u hu:=by rw [h.1] at hu;rw [List.mem_singleton.1 hu];rfl
 to h _:=h
def bool:Kd Bool where
 sz:=1
 R _ _ x cs:=cs= [.bool x]
 len h:=by rw [h];rfl
 one h u hu:=by rw [h] at hu;rw [List.mem_singleton.1 hu];rfl
 to h _:=h
inductive Cs {α:Type} (a:Kd α) (M:Nat->Prop) (w:World):List α->List Value->Prop
 | nil:Cs a M w [] []
 | cons {x:α} {c:List Value} {xs:List α} {cs:List Value} :a.R M w x c->Cs a M w xs cs->Cs a M w (x ::xs) (c ++ cs)
section
variable {α:Type} {a:Kd α} {M M':Nat->Prop} {w w':World} {xs ys:List α} {cs ds:List Value}
theorem Cs.len (h:Cs a M w xs cs):cs.length=xs.length*a.sz:=by
 induction h with
 | nil=>simp
 | cons hr _ ih=>rw [List.length_append,a.len hr,ih,List.length_cons,Nat.add_mul,Nat.one_mul,Nat.add_comm]
theorem Cs.one (h:Cs a M w xs cs):∀ u ∈ cs,u.oneCell'=true:=by
 induction h with
 | nil=>intro u hu;cases hu
 | cons hr _ ih=>intro u hu;rcases List.mem_append.1 hu with h | h;exact a.one hr u h;exact ih u h
theorem Cs.to (h:Cs a M w xs cs) (k:Step M w M' w'):Cs a M' w' xs cs:=by
 induction h with
 | nil=>exact .nil
 | cons hr _ ih=>exact .cons (a.to hr k) ih
theorem Cs.app (h:Cs a M w xs cs) (k:Cs a M w ys ds):Cs a M w (xs ++ ys) (cs ++ ds):=by
 induction h with
 | nil=>exact k
 | cons hr _ ih=>rw [List.cons_append,List.append_assoc];exact .cons hr ih
theorem Cs.at_ (h:Cs a M w xs cs):∀ (i:Nat) (hi:i<xs.length),∃ pre c post,cs=pre ++ c ++ post/\pre.length=i*a.sz/\a.R M w xs[i] c/\
  ∀ (M':Nat->Prop) (w':World) (y:α) (c':List Value),Step M w M' w'->a.R M' w' y c'->Cs a M' w' (xs.set i y) (pre ++ c' ++ post):=by
 induction h with
 | nil=>intro i hi;simp at hi
 | cons hr hs ih=>
  rename_i x c xs cs
  intro i hi
  cases i with
  | zero=>exact ⟨[],c,cs,rfl,by simp,hr,fun M' w' y c' k hy=>.cons hy (hs.to k)⟩
  | succ i=>
   obtain ⟨pre,c1,post,h1,h2,h3,h4⟩:=ih i (by simpa using hi)
   refine ⟨c ++ pre,c1,post,by rw [h1];simp,?_,by simpa using h3,fun M' w' y c' k hy=>?_⟩
   ·rw [List.length_append,a.len hr,h2,Nat.add_mul,Nat.one_mul,Nat.add_comm]
   ·have:=Cs.cons (a.to hr k) (h4 M' w' y c' k hy)
    simpa using this
theorem Cs.part (h:Cs a M w xs cs):∀ (i m:Nat),i+m<=xs.length->∃ pre c post,cs=pre ++ c ++ post/\pre.length=i*a.sz/\Cs a M w ((xs.drop i).take m) c:=by
 induction h with
 | nil=>
  intro i m hm
  obtain rfl:i=0:=by simp at hm;omega
  obtain rfl:m=0:=by simp at hm;omega
  exact ⟨[],[],[],rfl,by simp,.nil⟩
 | cons hr hs ih=>
  rename_i x c xs cs
  intro i m hm
  cases i with
  | zero=>
   cases m with
   | zero=>exact ⟨[],[],c ++ cs,rfl,by simp,.nil⟩
   | succ m=>
    obtain ⟨pre,c1,post,h1,h2,h3⟩:=ih 0 m (by simp at hm |-;omega)
    obtain rfl:pre= []:=by
     apply List.eq_nil_of_length_eq_zero
     simpa using h2
    refine ⟨[],c ++ c1,post,by rw [h1];simp,by simp,?_⟩
    have:=Cs.cons hr h3
    simpa using this
  | succ i=>
   obtain ⟨pre,c1,post,h1,h2,h3⟩:=ih i m (by simp at hm;omega)
   refine ⟨c ++ pre,c1,post,by rw [h1];simp,?_,by simpa using h3⟩
   rw [List.length_append,a.len hr,h2,Nat.add_mul,Nat.one_mul,Nat.add_comm]
end
end Kd
def At (w:World) (b off:Nat) (cs:List Value):Prop:=∀ j u,cs[j]? =some u->w.cell? ⟨b,off+j,none⟩ =some u
theorem At.block {w w':World} {b off:Nat} {cs:List Value} (h:At w b off cs) (k:w'.heap[b]? =w.heap[b]?):At w' b off cs:=fun j u hu=>(World.cell?_of_block (w:=w) (a:=⟨b,off+j,none⟩) k).trans (h j u hu)
theorem At.part {w:World} {b off:Nat} {pre c post:List Value} (h:At w b off (pre ++ c ++ post)):At w b (off+pre.length) c:=fun j u hu=>by
 have:=h (pre.length+j) u (by
  rw [List.append_assoc,List.getElem?_append_right (by omega)]
  rw [show pre.length+j - pre.length=j by omega,List.getElem?_append_left]
  ·exact hu
  ·rcases Nat.lt_or_ge j c.length with h | h
   ·exact h
   ·rw [List.getElem?_eq_none h] at hu;cases hu)
 rwa [<- Nat.add_assoc] at this
theorem At.of_row {w:World} {b:Nat} {cs:Array Value} {t:TypeId} {fr:Nat×Nat} (h:w.heap[b]? =some (.cells cs t fr)):At w b 0 cs.toList:=fun j u hu=>by
 rw [Nat.zero_add,cell_of_row w b j cs t fr h]
 simpa using hu
def Rd {α:Type} (a:Kd α) (M:Nat->Prop) (w:World) (A:Option Addr) (xs:List α):Prop:=
 xs= []\/∃ b off cs,A=some ⟨b,off,none⟩/\¬ M b/\b<w.heap.size/\a.Cs M w xs cs/\At w b off cs
theorem Rd.to {α:Type} {a:Kd α} {M M':Nat->Prop} {w w':World} {A:Option Addr} {xs:List α} (h:Rd a M w A xs) (k:Step M w M' w'):Rd a M' w' A xs:=by
 rcases h with h | ⟨b,off,cs,rfl,hm,hb,hc,ha⟩
 ·exact .inl h
 ·exact .inr ⟨b,off,cs,rfl,fun h=>(k.sub b h).elim hm (fun h=>by omega),Nat.lt_of_lt_of_le hb k.size,hc.to k,ha.block (k.block b hb hm)⟩
namespace Kd
def slice {α:Type} (a:Kd α):Kd (List α) where
 sz:=1
 R M w xs cs:=∃ A c,cs= [.slice A xs.length c]/\xs.length<=c/\xs.length<=281474976710656/\Rd a M w A xs
 len h:=by obtain ⟨A,c,rfl,_⟩:=h;rfl
 one h u hu:=by obtain ⟨A,c,rfl,_⟩:=h;rw [List.mem_singleton.1 hu];rfl
 to h k:=by obtain ⟨A,c,rfl,hc,hb,h⟩:=h;exact ⟨A,c,rfl,hc,hb,h.to k⟩
end Kd
structure Bx (M:Nat->Prop) (w:World) (b:Nat) (cs:List Value):Prop where
 nm: ¬ M b
 lt:b<w.heap.size
 at_:At w b 0 cs
theorem At.sub {w:World} {b k:Nat} {all cs:List Value} (off:Nat) (h:At w b 0 all) (he:(all.drop off).take k=cs):At w b (0+off) cs:=fun j u hu=>by
 subst he
 have h2:all[off+j]? =some u:=by
  rw [List.getElem?_take] at hu
  split at hu
  ·rw [List.getElem?_drop] at hu;exact hu
  ·cases hu
 have:=h (off+j) u h2
 rwa [Nat.zero_add] at this |-
theorem At.one {w:World} {b off j:Nat} {cs:List Value} {u:Value} (h:At w b off cs) (hu:cs[j]? =some u):w.cell? ⟨b,off+j,none⟩ =some u:=h j u hu
theorem Bx.to {M M':Nat->Prop} {w w':World} {b:Nat} {cs:List Value} (h:Bx M w b cs) (k:Step M w M' w'):Bx M' w' b cs:=
 ⟨fun hm=>(k.sub b hm).elim h.nm (fun hl=>by have:=h.lt;omega),Nat.lt_of_lt_of_le h.lt k.size,h.at_.block (k.block b h.lt h.nm)⟩
structure Mb (Wr M:Nat->Prop) (w:World) (b:Nat) (T:TypeId) (cs:Array Value):Prop where
 m:M b
 wr:Wr b
 row:w.heap[b]? =some (.cells cs T (0,0))
theorem Mb.lt {Wr M:Nat->Prop} {w:World} {b:Nat} {T:TypeId} {cs:Array Value} (h:Mb Wr M w b T cs):b<w.heap.size:=(Array.getElem?_eq_some_iff.1 h.row).1
def ins (M:Nat->Prop) (b:Nat):Nat->Prop:=fun x=>x=b\/M x
def isAgg (d:TypeDesc):Bool:=match d with
 | .struct _ | .array _ _=>true
 | _=>false
section
variable {P:Program} {o:Oper} {n:Nat} {L:List (Nat×Value)} {w w0:World} {v u:Value} {x y:Operand} {T:TypeId} {d:TypeDesc} {Wr M M0:Nat->Prop}
theorem isAgg_run (hu:P.underlying T=some d):(Go.isAgg T).run P w= .ok (isAgg d) w:=by
 unfold Go.isAgg
 rw [Sem.run_bind,run_underlying hu w]
 cases d <;> rfl
theorem o_ld1 {b off:Nat} (ho:o.op= .load T x) (hu:P.underlying T=some d) (hd:isAgg d=false) (hx:ev L x=some (.pointer (some ⟨b,off,none⟩))) (hc:w.cell? ⟨b,off,none⟩ =some v):OpV P o n L w v:=fun a ha=>by
 simp only [execOp,ho,ha.ev hx,Instr.loadAt,Instr.sureAddr,Sem.run_bind,Sem.run_pure,Result.andThen_ok,loadVar,isAgg_run hu,hd]
 simp [hc]
theorem o_ldn {b off:Nat} {cs:List Value} (ho:o.op= .load T x) (hu:P.underlying T=some d) (hd:isAgg d=true) (hs:(P.info? T).map (·.size)=some cs.length) (hx:ev L x=some (.pointer (some ⟨b,off,none⟩))) (hc:At w b off cs):OpV P o n L w (.agg cs.toArray):=fun a ha=>by
 obtain ⟨inf,hi,hz⟩:=Option.map_eq_some_iff.1 hs
 have hl:(loadCells ⟨b,off,none⟩ cs.length).run P w= .ok cs.toArray w:=
  run_loadCells_list (P:=P) w ⟨b,off,none⟩ cs (fun j v hv=>by
   have hadd:(⟨b,off,none⟩:Addr).add j= ⟨b,off+j,none⟩:=by unfold Addr.add;split <;> simp_all
   rw [hadd]
   exact hc j v hv)
 simp only [execOp,ho,ha.ev hx,Instr.loadAt,Instr.sureAddr,Sem.run_bind,Sem.run_pure,Result.andThen_ok,loadVar,isAgg_run hu,hd,if_true,sizeOf,typeInfo,run_program,hi,hz,hl]
theorem grown_setRow (w:World) (b:Nat) (cs:Array Value):w.grownBy (w.setRow b cs) (some b):=by
 refine ⟨rfl,rfl,rfl,by simp,fun k hk hn=>?_⟩
 have:k≠b:=fun e=>hn (by rw [e])
 simp [World.setRow,Array.getElem?_modify,Ne.symm this]
end
def evs (L:List (Nat×Value)):List Operand->Option (List Value)
 | []=>some []
 | x ::l=>match ev L x,evs L l with
  | some v,some vs=>some (v ::vs)
  | _,_=>none
theorem Fr.evs {n:Nat} {L:List (Nat×Value)} {a:Act} (h:Fr n L a):∀ {xs:List Operand} {vs:List Value},E.evs L xs=some vs->xs.map a.eval=vs
 | [],vs,hv=>by simpa [E.evs] using hv
 | x ::l,vs,hv=>by
  simp only [E.evs] at hv
  cases hx:E.ev L x with
  | none=>simp [hx] at hv
  | some u=>
   cases hl:E.evs L l with
   | none=>simp [hx,hl] at hv
   | some us=>
    simp only [hx,hl,Option.some.injEq] at hv
    rw [List.map_cons,h.ev hx,h.evs hl,hv]
def callable (P:Program) (f:FuncId):Bool:=match P.funcs[f]? with
 | some fn => !(fn.name == "runtime.NumGoroutine") && fn.body.isSome
 | none=>false
theorem callFunc_run {P:Program} {f:FuncId} (h:callable P f=true) (args:Array Value) (w:World):(callFunc f args).run P w= .ok (.enter f args) w:=by
 unfold callable at h
 cases hf:P.funcs[f]? with
 | none=>simp [hf] at h
 | some fn=>
  simp only [hf,Bool.and_eq_true,Bool.not_eq_true'] at h
  have hb:fn.body.isNone=false:=by cases hq:fn.body <;> simp_all
  unfold callFunc
  rw [Sem.run_bind,run_program,Result.andThen_ok,hf]
  simp only [h.1,hb,Bool.false_eq_true,if_false]
  rfl
theorem o_call {P:Program} {o:Oper} {n:Nat} {L:List (Nat×Value)} {w:World} {c:Call} {f:FuncId} {xs:List Operand} {vs:List Value} {post:Value->World->Prop} (ho:o.op= .call c) (hc:c.callee= .value (.func f)) (has:c.args=xs.toArray) (hv:evs L xs=some vs) (hf:callable P f=true)
  (h:Calls P f vs.toArray w (fun e w'=>∃ v,e= .returned v/\post v w')):OpC P o n L w post:=fun a ha K Q hK=>by
 have hr:(execOp a.eval o).run P w= .ok (.enter f vs.toArray) w:=by
  simp only [execOp,ho,Sem.run_bind,resolve,hc,has,Act.eval,Deferred.ofValue,Sem.run_pure,Result.andThen_ok,invoke]
  have:(xs.toArray.map a.eval)=vs.toArray:=by rw [List.map_toArray,ha.evs hv]
  simp only [this]
  rw [show (#[] ++ vs.toArray ++ #[]:Array Value)=vs.toArray by simp]
  exact callFunc_run hf _ _
 unfold Oper.wp
 rw [hr,Oper.upon_enter]
 refine Calls.mono h fun e w' he=>?_
 obtain ⟨v,rfl,hp⟩:=he
 exact hK v w' hp
end Go.Proofs.Ytbjnmmgnonldnaa.E
