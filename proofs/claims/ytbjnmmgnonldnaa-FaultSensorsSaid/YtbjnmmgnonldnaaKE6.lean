/- The engine, part 6: regions of open order in which memory is made at any time (variables, literals), beside calls. No program text. -/
import Derived.Test.YtbjnmmgnonldnaaKE5
set_option linter.unusedVariables false
set_option linter.unusedSimpArgs false
namespace Go.Proofs.Ytbjnmmgnonldnaa.E
open Go Go.RowKit Go.Proofs.YtbjnmmgnonldnaaW.PrintLast
structure Grow (w:World) (M:Nat->Prop) (w':World) (M':Nat->Prop):Prop where
 below:Below w.heap.size w w'
 inc:∀ b,M b->M' b
 sub:∀ b,M' b->M b\/w.heap.size<=b
 lt:∀ b,M' b->b<w'.heap.size
theorem Grow.refl {w:World} {M:Nat->Prop} (h:∀ b,M b->b<w.heap.size):Grow w M w M:=⟨Below.refl _ _,fun _ h=>h,fun _ h=>.inl h,h⟩
theorem Grow.trans {w w1 w2:World} {M M1 M2:Nat->Prop} (h:Grow w M w1 M1) (k:Grow w1 M1 w2 M2):Grow w M w2 M2:=
 ⟨h.below.trans (k.below.mono h.below.size),fun b hb=>k.inc b (h.inc b hb),fun b hb=>(k.sub b hb).elim (fun h'=>h.sub b h') (fun h'=>.inr (Nat.le_trans h.below.size h')),k.lt⟩
theorem Grow.step {w w1:World} {M M1:Nat->Prop} (h:Grow w M w1 M1):Step M w M1 w1:=⟨h.below.size,fun b hb _=>h.below.block b hb,h.sub⟩
theorem Grow.st {Wr M0 M M1:Nat->Prop} {w0 w w1:World} (h:Grow w M w1 M1) (hS:St Wr w0 M0 w M):St Wr w0 M0 w1 M1:=⟨hS.eff.below h.below,hS.step.trans h.step,fun b hb=>h.inc b (hS.inc b hb),h.lt⟩
theorem Grow.of_below {w w1:World} {M:Nat->Prop} (h:Below w.heap.size w w1) (hl:∀ b,M b->b<w.heap.size):Grow w M w1 M:=⟨h,fun _ h=>h,fun _ h=>.inl h,fun b hb=>Nat.lt_of_lt_of_le (hl b hb) h.size⟩
theorem Grow.of_step {w w1:World} {M M1:Nat->Prop} (hb:Below w.heap.size w w1) (h:Step M w M1 w1) (hi:∀ b,M b->M1 b) (hl:∀ b,M1 b->b<w1.heap.size):Grow w M w1 M1:=⟨hb,hi,h.sub,hl⟩
structure Chg (w w':World) (C:Nat->Prop):Prop where
 size:w.heap.size<=w'.heap.size
 block:∀ b,b<w.heap.size->¬ C b->w'.heap[b]? =w.heap[b]?
theorem Chg.refl (w:World) (C:Nat->Prop):Chg w w C:=⟨Nat.le_refl _,fun _ _ _=>rfl⟩
theorem Chg.bl {w w1 w2:World} {C:Nat->Prop} (h:Chg w w1 C) (k:Below w1.heap.size w1 w2):Chg w w2 C:=⟨Nat.le_trans h.size k.size,fun b hb hn=>(k.block b (Nat.lt_of_lt_of_le hb h.size)).trans (h.block b hb hn)⟩
theorem At.chg {w w':World} {C:Nat->Prop} {b off:Nat} {cs:List Value} (h:At w b off cs) (hl:b<w.heap.size) (hn: ¬ C b) (k:Chg w w' C):At w' b off cs:=h.block (k.block b hl hn)
def OpA (P:Program) (o:Oper) (n:Nat) (L:List (Nat×Value)) (obj:Obj) (mk:Nat->Value):Prop:=∀ a w,Fr n L a->(execOp a.eval o).run P w= .ok (.value (mk w.heap.size)) (w.alloc obj)
structure Late where
 i:Nat
 d:Nat
 obj:Obj
 mkv:Nat->Value
 own:Bool
 L:List (Nat×Value)
def LOk (P:Program) (ops:Array Oper) (n:Nat) (lt:Late):Prop:=∃ o,ops[lt.i]? =some o/\o.dst=some lt.d/\Nat.blt lt.d n=true/\o.guard=none/\OpA P o n lt.L lt.obj lt.mkv
inductive Stp where
 | take (i:Nat)
 | pure_ (i:Nat)
 | call (i:Nat)
 | ann (i:Nat)
 | have_ (i:Nat)
def pOk (pend:List Late):Option Tmp->Bool
 | none=>true
 | some d=>pend.all fun lt=>!(Nat.beq d lt.d) && (lk lt.L d).isNone
def aOk (pend:List Late) (lt:Late):Bool:=(lk lt.L lt.d).isNone && pend.all fun p=>!(Nat.beq p.d lt.d) && !(Nat.beq p.i lt.i) && (lk lt.L p.d).isNone && (lk p.L lt.d).isNone
def DT (P:Program) (ops:Array Oper) (Q:Exit->Act->World->Prop) (ds:List Nat) (C:Nat->Prop) (w0:World) (n:Nat):List Nat->List (Nat×Value)->World->Prop
 | [],L,w=>∀ a,Fr n L a->Q .normal a w
 | i ::r,L,w=>∃ o,ops[i]? =some o/\fits o.dst n=true/\((wantB ops L o=some false/\DT P ops Q ds C w0 n r (putL o.dst undef L) w)\/(wantB ops L o=some true/\∃ post,OpC P o n L w post/\∀ v w',post v w'->(i ∉ ds->Chg w0 w C->Chg w0 w' C)/\DT P ops Q ds C w0 n r (putL o.dst v L) w'))
structure GrowP (pend:List Late) (w:World) (M:Nat->Prop) (w':World) (M':Nat->Prop):Prop where
 below:Below w.heap.size w w'
 lt:∀ b,M' b->b<w'.heap.size
 g:pend≠[]->Grow w M w' M'
theorem Grow.p {pend:List Late} {w w':World} {M M':Nat->Prop} (h:Grow w M w' M'):GrowP pend w M w' M':=⟨h.below,h.lt,fun _=>h⟩
def hadC (had:Nat->Prop) (w1 w':World):Nat->Prop:=fun x=>had x\/(w1.heap.size<=x/\x<w'.heap.size)
def hadB (had:Nat->Prop) (b:Nat):Nat->Prop:=fun x=>x=b\/had x
def DR (P:Program) (ops:Array Oper) (Q:Exit->Act->World->Prop) (ds:List Nat) (E:List (Nat×Value)->World->Prop) (C:Nat->Prop) (w0:World) (n:Nat):List Stp->List Late->(Nat->Prop)->List (Nat×Value)->World->(Nat->Prop)->Prop
 | [],_,_,L,w,_=>E L w
 | .take i ::r,pend,had,L,w,M=>∃ o v,ops[i]? =some o/\fits o.dst n=true/\pOk pend o.dst=true/\((wantB ops L o=some true/\∀ w',Chg w0 w' C->OpV P o n L w' v)\/(wantB ops L o=some false/\v=undef))/\DR P ops Q ds E C w0 n r pend had (putL o.dst v L) w M
 | .pure_ i ::r,pend,had,L,w,M=>∃ o v,ops[i]? =some o/\fits o.dst n=true/\pOk pend o.dst=true/\((wantB ops L o=some true/\∀ w',OpV P o n L w' v)\/(wantB ops L o=some false/\v=undef))/\DR P ops Q ds E C w0 n r pend had (putL o.dst v L) w M
 | .call i ::r,pend,had,L,w,M=>∃ o,ops[i]? =some o/\fits o.dst n=true/\pOk pend o.dst=true/\((wantB ops L o=some false/\DR P ops Q ds E C w0 n r pend had (putL o.dst undef L) w M)\/(wantB ops L o=some true/\∀ w1 M1,Grow w M w1 M1->(pend= []->w1=w/\M1=M)->∃ post,OpC P o n L w1 post/\∀ v w',post v w'->∃ M',GrowP pend w1 M1 w' M'/\DR P ops Q ds E C w0 n r pend (hadC had w1 w') (putL o.dst v L) w' M'))
 | .ann i ::r,pend,had,L,w,M=>∃ lt:Late,lt.i=i/\LOk P ops n lt/\aOk pend lt=true/\(lk L lt.d).isNone=true/\(∀ a,Fr n L a->Fr n lt.L a)/\DR P ops Q ds E C w0 n r (lt ::pend) had L w M
 | .have_ i ::r,pend,had,L,w,M=>∃ lt:Late,lt ∈ pend/\lt.i=i/\∀ w1 M1 b,Grow w M w1 M1->w1.heap[b]? =some lt.obj->w0.heap.size<=b->(lt.own=true->M1 b)->(lt.own=false->¬ M1 b)->¬ had b->DR P ops Q ds E C w0 n r (pend.filter fun p=>!(Nat.beq p.i i)) (hadB had b) ((lt.d,lt.mkv b) ::L) w1 M1
def subs:List Nat->List (List Nat)
 | []=>[[]]
 | x ::l=>subs l ++ (subs l).map (x :: ·)
theorem filter_subs (p:Nat->Bool):∀ l:List Nat,l.filter p ∈ subs l
 | []=>by simp [subs]
 | x ::l=>by
  simp only [subs,List.mem_append,List.mem_map]
  by_cases h:p x=true
  ·rw [List.filter_cons_of_pos h];exact .inr ⟨_,filter_subs p l,rfl⟩
  ·rw [List.filter_cons_of_neg h];exact .inl (filter_subs p l)
def arr (m:Nat) (lc s:List Nat):Array Bool:=(Array.range m).map fun j=>lc.contains j || s.contains j
theorem mem_arr {lc s:List Nat} {j:Nat} :(lc.contains j || s.contains j)=true ↔ (j ∈ lc\/j ∈ s):=by simp
theorem arr_ext {m:Nat} {lc s lc' s':List Nat} (h:∀ j,j<m->((j ∈ lc\/j ∈ s) ↔ (j ∈ lc'\/j ∈ s'))):arr m lc s=arr m lc' s':=by
 unfold arr
 apply Array.ext
 ·simp
 ·intro j h1 h2
  simp only [Array.getElem_map,Array.getElem_range]
  simp only [Array.size_map,Array.size_range] at h1
  exact Bool.eq_iff_iff.mpr (mem_arr.trans ((h j h1).trans mem_arr.symm))
theorem arr_set {m i:Nat} {lc s lc' s':List Nat} (h:∀ j,j<m->((j=i\/j ∈ lc\/j ∈ s) ↔ (j ∈ lc'\/j ∈ s'))):(arr m lc s).setIfInBounds i true=arr m lc' s':=by
 unfold arr
 apply Array.ext
 ·simp
 ·intro j h1 h2
  simp only [Array.size_setIfInBounds,Array.size_map,Array.size_range] at h1
  have:=h j h1
  rw [Array.getElem_setIfInBounds (by simpa using h1)]
  simp only [Array.getElem_map,Array.getElem_range]
  by_cases e:i=j
  ·subst e
   simp only [true_or,true_iff] at this
   simp only [if_true]
   exact (mem_arr.mpr this).symm
  ·simp only [e,if_false]
   refine Bool.eq_iff_iff.mpr (mem_arr.trans (Iff.trans ?_ mem_arr.symm))
   rw [<- this]
   constructor
   ·exact .inr
   ·rintro (h | h)
    ·exact absurd h.symm e
    ·exact h
def chkT (ops:Array Oper):Array Bool->List Nat->Bool
 | l,[]=>Region.ready .any ops l == []
 | l,i ::r=>(Region.ready .any ops l == [i]) && chkT ops (l.setIfInBounds i true) r
def without (s:List Nat) (pend:List Nat):List Nat:=pend.filter fun i=>!(s.contains i)
def chkR (ops:Array Oper) (ds:List Nat) (ce:Array Bool->Bool):List Nat->List Nat->List Stp->Bool
 | lc,pend,[]=>pend.isEmpty && ce (arr ops.size lc [])
 | lc,pend,.take i ::r=>Region.noSelect ops && Nat.blt i ops.size && ((subs pend).all fun s=>let l:=arr ops.size lc s;Region.free .any ops l i && (Region.ready .any ops l).contains i && Region.closedB .any ops l && Region.lastB .any ops l ds i) && chkR ops ds ce (i ::lc) pend r
 | lc,pend,.pure_ i ::r=>Region.noSelect ops && Nat.blt i ops.size && ((subs pend).all fun s=>let l:=arr ops.size lc s;Region.free .any ops l i && (Region.ready .any ops l).contains i) && chkR ops ds ce (i ::lc) pend r
 | lc,pend,.call i ::r=>!(ds.contains i) && Nat.blt i ops.size && ((subs pend).all fun s=>let l:=Region.ready .any ops (arr ops.size lc s);l.contains i && l.all fun j=>Nat.beq j i || (without s pend).contains j) && chkR ops ds ce (i ::lc) pend r
 | lc,pend,.ann i ::r=>!(ds.contains i) && !(lc.contains i) && chkR ops ds ce lc (i ::pend) r
 | lc,pend,.have_ i ::r=>((subs pend).all fun s=>s.contains i || (let l:=Region.ready .any ops (arr ops.size lc s);!(l.isEmpty) && l.all fun j=>(without s pend).contains j)) && chkR ops ds ce (i ::lc) (pend.filter fun j=>!(Nat.beq j i)) r
def cnt:List Stp->Nat
 | []=>0
 | .have_ _ ::r=>cnt r
 | _ ::r=>cnt r+1
section
variable {P:Program} {ops:Array Oper} {Q:Exit->Act->World->Prop} {n:Nat} {ds tail:List Nat} {w0:World} {C:Nat->Prop}
theorem DT.sound (hq:PanicQ Q):∀ (ord:List Nat) (l:Array Bool) (L:List (Nat×Value)) (w:World) (a:Act),chkT ops l ord=true->DT P ops Q ds C w0 n ord L w->Fr n L a->wpAnyLast P .any ops Q (fun w'=>Chg w0 w' C) ds ord.length l a w
 | [],l,L,w,a,hc,h,ha=>wpAnyLast_done (by simpa [chkT] using hc) (h a ha) _
 | i ::r,l,L,w,a,hc,h,ha=>by
  simp only [chkT,Bool.and_eq_true,beq_iff_eq] at hc
  obtain ⟨h1,h2⟩:=hc
  obtain ⟨o,hi,hf,hk⟩:=h
  refine wpAnyLast_all h1 (by simp) fun j hj=>?_
  obtain rfl:j=i:=by simpa using hj
  unfold wpOp
  simp only [hi]
  rcases hk with ⟨hw,hk⟩ | ⟨hw,post,hop,hk⟩
  ·rw [if_neg (by rw [wantB_spec hw ha];simp)]
   exact ⟨fun _ h=>h,DT.sound hq r _ _ w _ h2 hk (ha.putL hf undef)⟩
  ·rw [if_pos (wantB_spec hw ha)]
   refine .inl (hop a ha _ _ fun v w' hp=>?_)
   obtain ⟨k1,k2⟩:=hk v w' hp
   exact ⟨k1,DT.sound hq r _ _ w' _ h2 k2 (ha.putL hf v)⟩
structure RI (w0:World) (n:Nat) (a:Act) (w:World) (M:Nat->Prop) (pend:List Late) (bl:Nat->Option Nat) (had:Nat->Prop):Prop where
 fr:∀ lt ∈ pend,Fr n lt.L a
 dn:∀ lt ∈ pend,∀ b,bl lt.i=some b->a.tmps[lt.d]? =some (lt.mkv b)/\w.heap[b]? =some lt.obj/\w0.heap.size<=b/\(lt.own=true->M b)/\(lt.own=false->¬ M b)/\¬ had b
 dj:∀ p ∈ pend,∀ q ∈ pend,p.i≠q.i->∀ b,bl p.i=some b->bl q.i≠some b
 had:∀ b,had b->b<w.heap.size
theorem Fr.put_none {L:List (Nat×Value)} {a:Act} (h:Fr n L a) {d:Nat} (hd:(lk L d).isNone=true) (v:Value):Fr n L (a.put (some d) v):=by
 refine ⟨h.defers,by simp [Act.put,h.size],fun t u hu=>?_⟩
 have hne:d≠t:=fun e=>by subst e;rw [hu] at hd;cases hd
 have:=h.get t u hu
 simp only [Act.put]
 rw [Array.getElem?_setIfInBounds_ne hne]
 exact this
theorem tmps_put_ne {a:Act} {d t:Nat} {v u:Value} (hne:d≠t) (h:a.tmps[t]? =some u):(a.put (some d) v).tmps[t]? =some u:=by
 simp only [Act.put]
 rw [Array.getElem?_setIfInBounds_ne hne]
 exact h
theorem RI.put {a:Act} {w w':World} {M M':Nat->Prop} {pend:List Late} {bl:Nat->Option Nat} {had:Nat->Prop} (h:RI w0 n a w M pend bl had) (dst:Option Tmp) (v:Value) (hp:pOk pend dst=true) (hg:Grow w M w' M'):RI w0 n (a.put dst v) w' M' pend bl had:=by
 have hs:∀ lt ∈ pend,∀ d,dst=some d->d≠lt.d/\(lk lt.L d).isNone=true:=fun lt hlt d hd=>by
  subst hd
  have:=List.all_eq_true.1 hp lt hlt
  simp only [Bool.and_eq_true,Bool.not_eq_true'] at this
  exact ⟨fun e=>by subst e;simp at this,this.2⟩
 refine ⟨fun lt hlt=>?_,fun lt hlt b hb=>?_,h.dj,fun b hb=>Nat.lt_of_lt_of_le (h.had b hb) hg.below.size⟩
 ·cases dst with
  | none=>exact h.fr lt hlt
  | some d=>exact (h.fr lt hlt).put_none (hs lt hlt d rfl).2 v
 ·obtain ⟨h1,h2,h3,h4,h5,h6⟩:=h.dn lt hlt b hb
  have hbl:b<w.heap.size:=(Array.getElem?_eq_some_iff.1 h2).1
  refine ⟨?_,(hg.below.block b hbl).trans h2,h3,fun ho=>hg.inc b (h4 ho),fun ho hm=>?_,h6⟩
  ·cases dst with
   | none=>exact h1
   | some d=>exact tmps_put_ne (hs lt hlt d rfl).1 h1
  ·rcases hg.sub b hm with hm | hm
   ·exact h5 ho hm
   ·omega
theorem RI.putP {a:Act} {w w':World} {M M':Nat->Prop} {pend:List Late} {bl:Nat->Option Nat} {had:Nat->Prop} (h:RI w0 n a w M pend bl had) (dst:Option Tmp) (v:Value) (hp:pOk pend dst=true) (hg:GrowP pend w M w' M'):RI w0 n (a.put dst v) w' M' pend bl had:=by
 by_cases e:pend= []
 ·subst e
  exact ⟨fun lt h=>by simp at h,fun lt h=>by simp at h,fun lt h=>by simp at h,fun b hb=>Nat.lt_of_lt_of_le (h.had b hb) hg.below.size⟩
 ·exact h.put dst v hp (hg.g e)
theorem RI.more {a a':Act} {w w':World} {M M':Nat->Prop} {pend:List Late} {bl:Nat->Option Nat} {had:Nat->Prop} (h:RI w0 n a w M pend bl had) (h2:RI w0 n a' w' M' pend bl had) (hs:w.heap.size<=w'.heap.size):RI w0 n a' w' M' pend bl (hadC had w w'):=by
 refine ⟨h2.fr,fun lt hlt b hb=>?_,h2.dj,fun b hb=>(show had b\/_ from hb).elim (h2.had b) fun h=>h.2⟩
 obtain ⟨g1,g2,g3,g4,g5,g6⟩:=h2.dn lt hlt b hb
 have k2:=(h.dn lt hlt b hb).2.1
 refine ⟨g1,g2,g3,g4,g5,fun hx=>(show had b\/_ from hx).elim g6 fun hx=>?_⟩
 have:=(Array.getElem?_eq_some_iff.1 k2).1
 omega
def idx (pend:List Late):List Nat:=pend.map (·.i)
def dones (pend:List Late) (bl:Nat->Option Nat):List Nat:=(idx pend).filter fun i=>(bl i).isSome
theorem mem_dones {pend:List Late} {bl:Nat->Option Nat} {j:Nat} :j ∈ dones pend bl ↔ (∃ lt ∈ pend,lt.i=j)/\(bl j).isSome=true:=by
 simp [dones,idx]
def PW (pend:List Late):Prop:=∀ p ∈ pend,∀ q ∈ pend,(p.i=q.i->p=q)/\(lk p.L q.d).isNone=true/\(p.i≠q.i->p.d≠q.d)
theorem undone_upd {bl:Nat->Option Nat} {j b:Nat} (hb:bl j=none):∀ {l:List Nat},l.Nodup->j ∈ l->(l.filter fun i=>!((fun k=>if k=j then some b else bl k) i).isSome).length+1=(l.filter fun i=>!(bl i).isSome).length
 | [],_,h=>by simp at h
 | x ::l,hn,h=>by
  obtain ⟨hx,hn⟩:=List.nodup_cons.1 hn
  by_cases e:x=j
  ·subst e
   have:(l.filter fun i=>!((fun k=>if k=x then some b else bl k) i).isSome)=l.filter fun i=>!(bl i).isSome:=List.filter_congr fun y hy=>by
    have:y≠x:=fun e=>hx (e ▸ hy)
    simp [this]
   rw [List.filter_cons_of_neg (by simp),List.filter_cons_of_pos (by simp [hb]),this]
   rfl
  ·have ih:=undone_upd (b:=b) hb hn (by simpa [Ne.symm e] using h)
   by_cases hd:(bl x).isSome=true
   ·rw [List.filter_cons_of_neg (by simp [e,hd]),List.filter_cons_of_neg (by simp [hd])]
    exact ih
   ·rw [List.filter_cons_of_pos (by simpa [e] using hd),List.filter_cons_of_pos (by simpa using hd),List.length_cons,List.length_cons,ih]
theorem pOk_spec {pend:List Late} {dst:Option Tmp} (hp:pOk pend dst=true):∀ lt ∈ pend,∀ d,dst=some d->d≠lt.d/\(lk lt.L d).isNone=true:=fun lt hlt d hd=>by
 subst hd
 have:=List.all_eq_true.1 hp lt hlt
 simp only [Bool.and_eq_true,Bool.not_eq_true'] at this
 exact ⟨fun e=>by subst e;simp at this,this.2⟩
theorem lk_putL {L:List (Nat×Value)} {dst:Option Tmp} {v:Value} {t:Nat} (h:(lk L t).isNone=true) (hd:∀ d,dst=some d->d≠t):(lk (putL dst v L) t).isNone=true:=by
 cases dst with
 | none=>exact h
 | some d=>
  simp only [putL,lk]
  have:Nat.beq d t=false:=by
   cases hc:Nat.beq d t with
   | true=>exact absurd (Nat.eq_of_beq_eq_true hc) (hd d rfl)
   | false=>rfl
  rw [this]
  exact h
theorem DR.sound {E:List (Nat×Value)->World->Prop} {ce:Array Bool->Bool} {tl:Nat} (hq:PanicQ Q) (hE:∀ (l:Array Bool) (L:List (Nat×Value)) (w:World) (a:Act),ce l=true->E L w->Fr n L a->wpAnyLast P .any ops Q (fun w'=>Chg w0 w' C) ds tl l a w) :
  ∀ (k:Nat) (st:List Stp) (pend:List Late) (bl:Nat->Option Nat) (had:Nat->Prop) (lc:List Nat) (L:List (Nat×Value)) (w wa:World) (M Ma:Nat->Prop) (a:Act) (fuel:Nat),
   k=fuel+st.length->fuel=cnt st+((idx pend).filter fun i=>!(bl i).isSome).length+tl->
   chkR ops ds ce lc (idx pend) st=true->DR P ops Q ds E C w0 n st pend had L w M->Grow w M wa Ma->Fr n L a->Chg w0 wa C->
   (pend= []->wa=w/\Ma=M)->RI w0 n a wa Ma pend bl had->PW pend->(idx pend).Nodup->(∀ lt ∈ pend,LOk P ops n lt/\(lk L lt.d).isNone=true/\lt.i ∉ ds)->
   wpAnyLast P .any ops Q (fun w'=>Chg w0 w' C) ds fuel (arr ops.size lc (dones pend bl)) a wa:=by
 intro k
 induction k using Nat.strongRecOn with
 | _ k ih=>
 intro st pend bl had lc L w wa M Ma a fuel hk hfu hc hD hg ha hB hsy hri hpw hnd hL
 have hsub:dones pend bl ∈ subs (idx pend):=filter_subs _ _
 have pendStep:∀ lt ∈ pend,bl lt.i=none->∀ fuel',fuel=fuel'+1->wpOp P ops Q lt.i (fun a' w'=>(lt.i ∉ ds->Chg w0 wa C->Chg w0 w' C)/\wpAnyLast P .any ops Q (fun w'=>Chg w0 w' C) ds fuel' ((arr ops.size lc (dones pend bl)).setIfInBounds lt.i true) a' w') a wa:=by
  intro lt hm hb fuel' hf
  obtain ⟨⟨o,hi,hd,hdn,hgd,hop⟩,hLd,hids⟩:=hL lt hm
  unfold wpOp
  simp only [hi]
  rw [if_pos (by simp [Region.wanted,hgd])]
  refine .inl ?_
  unfold Oper.wp
  rw [hop a wa (hri.fr lt hm),Oper.upon_value,hd]
  have hbw:=below_alloc1 wa lt.obj
  have hB':Chg w0 (wa.alloc lt.obj) C:=hB.bl hbw
  refine ⟨fun _ _=>hB',?_⟩
  let bl':Nat->Option Nat:=fun k=>if k=lt.i then some wa.heap.size else bl k
  have hbl':∀ j,bl' j=if j=lt.i then some wa.heap.size else bl j:=fun _=>rfl
  have harr:(arr ops.size lc (dones pend bl)).setIfInBounds lt.i true=arr ops.size lc (dones pend bl'):=arr_set fun j _=>by
   rw [mem_dones,mem_dones,hbl']
   by_cases e:j=lt.i
   ·subst e
    simp only [true_or,if_true,Option.isSome_some,and_true,true_iff]
    exact .inr ⟨lt,hm,rfl⟩
   ·simp only [e,false_or,if_false]
  rw [harr]
  let Ma':Nat->Prop:=fun b=>Ma b\/(lt.own=true/\b=wa.heap.size)
  have hg':Grow wa Ma (wa.alloc lt.obj) Ma':=⟨hbw,fun b hb=>.inl hb,fun b hb=>hb.imp_right fun h=>by omega,fun b hb=>by
   rcases hb with hb | ⟨_,hb⟩
   ·exact Nat.lt_of_lt_of_le (hg.lt b hb) hbw.size
   ·subst hb;simp⟩
  refine ih (fuel'+st.length) (by omega) st pend bl' had lc L w _ M Ma' _ fuel' rfl ?_ hc hD (hg.trans hg') (ha.put_none hLd _) hB' (fun hp=>by rw [hp] at hm;cases hm) ?_ hpw hnd hL
  ·have:=undone_upd (b:=wa.heap.size) hb hnd (List.mem_map.2 ⟨lt,hm,rfl⟩)
   have e:((idx pend).filter fun i=>!(bl' i).isSome)=(idx pend).filter fun i=>!((fun k=>if k=lt.i then some wa.heap.size else bl k) i).isSome:=rfl
   rw [e]
   omega
  ·refine ⟨fun p hp=>(hri.fr p hp).put_none (hpw p hp lt hm).2.1 _,fun p hp b hpb=>?_,fun p hp q hq hne b h1 h2=>?_,fun b hb=>Nat.lt_of_lt_of_le (hri.had b hb) hbw.size⟩
   ·rw [hbl'] at hpb
    by_cases e:p.i=lt.i
    ·have:=(hpw p hp lt hm).1 e
     subst this
     simp only [if_true,Option.some.injEq] at hpb
     subst hpb
     refine ⟨?_,heap_alloc_new wa _,hB.size,fun ho=>.inr ⟨ho,rfl⟩,fun ho hma=>?_,fun hh=>Nat.lt_irrefl _ (hri.had _ hh)⟩
     ·have:=(ha.put_none hLd (p.mkv wa.heap.size))
      have hsz:p.d<a.tmps.size:=by rw [ha.size];simpa [Nat.blt_eq] using hdn
      simp [Act.put,hsz]
     ·rcases hma with h | ⟨h,_⟩
      ·exact Nat.lt_irrefl _ (hg.lt _ h)
      ·rw [ho] at h;cases h
    ·simp only [e,if_false] at hpb
     obtain ⟨h1,h2,h3,h4,h5,h6⟩:=hri.dn p hp b hpb
     have hbl:b<wa.heap.size:=(Array.getElem?_eq_some_iff.1 h2).1
     refine ⟨tmps_put_ne (fun hh=>(hpw p hp lt hm).2.2 e hh.symm) h1,(hbw.block b hbl).trans h2,h3,fun ho=>.inl (h4 ho),fun ho hma=>?_,h6⟩
     rcases hma with h | ⟨_,h⟩
     ·exact h5 ho h
     ·omega
   ·rw [hbl'] at h1 h2
    have hlt:∀ r ∈ pend,r.i≠lt.i->∀ b,bl r.i=some b->b<wa.heap.size:=fun r hr _ b hb=>(Array.getElem?_eq_some_iff.1 (hri.dn r hr b hb).2.1).1
    by_cases e1:p.i=lt.i
    ·by_cases e2:q.i=lt.i
     ·exact hne (e1.trans e2.symm)
     ·simp only [e1,if_true,e2,if_false,Option.some.injEq] at h1 h2
      have:=hlt q hq e2 b h2
      omega
    ·by_cases e2:q.i=lt.i
     ·simp only [e1,if_false,e2,if_true,Option.some.injEq] at h1 h2
      have:=hlt p hp e1 b h1
      omega
     ·simp only [e1,if_false,e2,if_false] at h1 h2
      exact hri.dj p hp q hq hne b h1 h2
 have wait:∀ j,j ∈ without (dones pend bl) (idx pend)->∃ lt ∈ pend,lt.i=j/\bl lt.i=none:=fun j hj=>by
  simp only [without,List.mem_filter,Bool.not_eq_true'] at hj
  obtain ⟨h1,h2⟩:=hj
  obtain ⟨lt,hm,rfl⟩:=List.mem_map.1 h1
  refine ⟨lt,hm,rfl,?_⟩
  cases hb:bl lt.i with
  | none=>rfl
  | some b=>
   have:lt.i ∈ dones pend bl:=mem_dones.2 ⟨⟨lt,hm,rfl⟩,by simp [hb]⟩
   rw [List.contains_iff_mem.2 this] at h2
   cases h2
 match st,hk,hfu,hc,hD with
 | [],hk,hfu,hc,hD=>
  simp only [chkR,Bool.and_eq_true] at hc
  have hp:idx pend= []:=by simpa using hc.1
  have hdn:dones pend bl= []:=by simp [dones,hp]
  rw [hdn]
  have:fuel=tl:=by rw [hp] at hfu;simpa [cnt] using hfu
  rw [this]
  have hpe:pend= []:=by simpa [idx] using hp
  rw [(hsy hpe).1]
  exact hE _ L w a hc.2 hD ha
 | .take i ::r,hk,hfu,hc,hD=>
  simp only [chkR,Bool.and_eq_true] at hc
  obtain ⟨⟨⟨h1,h2⟩,h3⟩,h4⟩:=hc
  have h5:=List.all_eq_true.1 h3 _ hsub
  simp only [Bool.and_eq_true] at h5
  obtain ⟨⟨⟨h5,h6⟩,h7⟩,h8⟩:=h5
  obtain ⟨o,v,hi,hf,hp,hv,hr⟩:=hD
  obtain ⟨fuel',rfl⟩:∃ f,fuel=f+1:=⟨fuel - 1,by simp only [cnt] at hfu;omega⟩
  refine wpAnyLast_take (oi:=o) (v:=v) hi h1 h5 h6 h7 h8 (fun c a w h=>hq c _ _ _ w h) ?_ hB ?_
  ·rcases hv with ⟨hw,hv⟩ | ⟨hw,rfl⟩
   ·exact .inl ⟨wantB_spec hw ha,fun w' hw'=>hv w' hw' a ha⟩
   ·exact .inr ⟨wantB_spec hw ha,rfl⟩
  ·have harr:(arr ops.size lc (dones pend bl)).setIfInBounds i true=arr ops.size (i ::lc) (dones pend bl):=arr_set fun j _=>by simp [or_assoc]
   rw [harr]
   refine ih (fuel'+r.length) (by simp at hk;omega) r pend bl had (i ::lc) _ w wa M Ma _ fuel' rfl (by simp only [cnt] at hfu;omega) h4 hr hg (ha.putL hf v) hB hsy (hri.put o.dst v hp (Grow.refl hg.lt)) hpw hnd fun lt hm=>?_
   obtain ⟨k1,k2,k3⟩:=hL lt hm
   exact ⟨k1,lk_putL k2 fun d hd=>(pOk_spec hp lt hm d hd).1,k3⟩
 | .pure_ i ::r,hk,hfu,hc,hD=>
  simp only [chkR,Bool.and_eq_true] at hc
  obtain ⟨⟨⟨h1,h2⟩,h3⟩,h4⟩:=hc
  have h5:=List.all_eq_true.1 h3 _ hsub
  simp only [Bool.and_eq_true] at h5
  obtain ⟨h5,h6⟩:=h5
  obtain ⟨o,v,hi,hf,hp,hv,hr⟩:=hD
  obtain ⟨fuel',rfl⟩:∃ f,fuel=f+1:=⟨fuel - 1,by simp only [cnt] at hfu;omega⟩
  refine wpAnyLast_any (oi:=o) (v:=v) hi (Region.noSelect_spec h1) (fun c a w h=>hq c _ _ _ w h) _ _ _ _ (Region.free_spec hi h5) (by simpa using h6) ?_ ?_
  ·rcases hv with ⟨hw,hv⟩ | ⟨hw,rfl⟩
   ·exact .inl ⟨wantB_spec hw ha,fun w'=>hv w' a ha⟩
   ·exact .inr ⟨wantB_spec hw ha,rfl⟩
  ·have harr:(arr ops.size lc (dones pend bl)).setIfInBounds i true=arr ops.size (i ::lc) (dones pend bl):=arr_set fun j _=>by simp [or_assoc]
   rw [harr]
   refine ih (fuel'+r.length) (by simp at hk;omega) r pend bl had (i ::lc) _ w wa M Ma _ fuel' rfl (by simp only [cnt] at hfu;omega) h4 hr hg (ha.putL hf v) hB hsy (hri.put o.dst v hp (Grow.refl hg.lt)) hpw hnd fun lt hm=>?_
   obtain ⟨k1,k2,k3⟩:=hL lt hm
   exact ⟨k1,lk_putL k2 fun d hd=>(pOk_spec hp lt hm d hd).1,k3⟩
 | .call i ::r,hk,hfu,hc,hD=>
  simp only [chkR,Bool.and_eq_true] at hc
  obtain ⟨⟨⟨h1,h2⟩,h3⟩,h4⟩:=hc
  have h5:=List.all_eq_true.1 h3 _ hsub
  simp only [Bool.and_eq_true] at h5
  obtain ⟨h5,h6⟩:=h5
  obtain ⟨o,hi,hf,hp,hr⟩:=hD
  obtain ⟨fuel',rfl⟩:∃ f,fuel=f+1:=⟨fuel - 1,by simp only [cnt] at hfu;omega⟩
  refine wpAnyLast_all rfl (fun h=>by rw [h] at h5;simp at h5) fun j hj=>?_
  have h7:=List.all_eq_true.1 h6 j hj
  simp only [Bool.or_eq_true] at h7
  rcases h7 with h7 | h7
  ·obtain rfl:=Nat.eq_of_beq_eq_true h7
   have harr:(arr ops.size lc (dones pend bl)).setIfInBounds j true=arr ops.size (j ::lc) (dones pend bl):=arr_set fun j _=>by simp [or_assoc]
   unfold wpOp
   simp only [hi]
   rcases hr with ⟨hw,hr⟩ | ⟨hw,hr⟩
   ·rw [if_neg (by rw [wantB_spec hw ha];simp)]
    refine ⟨fun _ h=>h,?_⟩
    rw [harr]
    refine ih (fuel'+r.length) (by simp at hk;omega) r pend bl had (j ::lc) _ w wa M Ma _ fuel' rfl (by simp only [cnt] at hfu;omega) h4 hr hg (ha.putL hf undef) hB hsy (hri.put o.dst undef hp (Grow.refl hg.lt)) hpw hnd fun lt hm=>?_
    obtain ⟨k1,k2,k3⟩:=hL lt hm
    exact ⟨k1,lk_putL k2 fun d hd=>(pOk_spec hp lt hm d hd).1,k3⟩
   ·rw [if_pos (wantB_spec hw ha)]
    obtain ⟨post,hop,hpost⟩:=hr wa Ma hg hsy
    refine .inl (hop a ha _ _ fun v w' hv=>?_)
    obtain ⟨M',hg',hr'⟩:=hpost v w' hv
    refine ⟨fun _ _=>hB.bl hg'.below,?_⟩
    rw [harr]
    refine ih (fuel'+r.length) (by simp at hk;omega) r pend bl _ (j ::lc) _ w' w' M' M' _ fuel' rfl (by simp only [cnt] at hfu;omega) h4 hr' (Grow.refl hg'.lt) (ha.putL hf v) (hB.bl hg'.below) (fun _=>⟨rfl,rfl⟩) (hri.more (hri.putP o.dst v hp hg') hg'.below.size) hpw hnd fun lt hm=>?_
    obtain ⟨k1,k2,k3⟩:=hL lt hm
    exact ⟨k1,lk_putL k2 fun d hd=>(pOk_spec hp lt hm d hd).1,k3⟩
  ·obtain ⟨lt,hm,rfl,hb⟩:=wait j (List.contains_iff_mem.1 h7)
   exact pendStep lt hm hb fuel' rfl
 | .ann i ::r,hk,hfu,hc,hD=>
  simp only [chkR,Bool.and_eq_true,Bool.not_eq_true'] at hc
  obtain ⟨⟨h1,h2⟩,h4⟩:=hc
  obtain ⟨lt,rfl,hlo,hao,hLn,hfr,hr⟩:=hD
  simp only [aOk,Bool.and_eq_true,Bool.not_eq_true'] at hao
  obtain ⟨ha0,ha1⟩:=hao
  have hall:∀ p ∈ pend,p.d≠lt.d/\p.i≠lt.i/\(lk lt.L p.d).isNone=true/\(lk p.L lt.d).isNone=true:=fun p hp=>by
   have:=List.all_eq_true.1 ha1 p hp
   simp only [Bool.and_eq_true,Bool.not_eq_true'] at this
   exact ⟨fun e=>by rw [e] at this;simp at this,fun e=>by rw [e] at this;simp at this,this.1.2,this.2⟩
  let bl':Nat->Option Nat:=fun j=>if j=lt.i then none else bl j
  have hbl':∀ j,bl' j=if j=lt.i then none else bl j:=fun _=>rfl
  have hni:lt.i ∉ idx pend:=fun h=>by obtain ⟨p,hp,e⟩:=List.mem_map.1 h;exact (hall p hp).2.1 e
  have hsame:∀ j ∈ idx pend,bl' j=bl j:=fun j hj=>by rw [hbl',if_neg (fun (e:j=lt.i)=>hni (e ▸ hj))]
  have harr:arr ops.size lc (dones pend bl)=arr ops.size lc (dones (lt ::pend) bl'):=arr_ext fun j _=>by
   rw [mem_dones,mem_dones]
   refine or_congr_right ?_
   constructor
   ·rintro ⟨⟨p,hp,rfl⟩,hb⟩
    exact ⟨⟨p,List.mem_cons_of_mem _ hp,rfl⟩,by rw [hsame _ (List.mem_map.2 ⟨p,hp,rfl⟩)];exact hb⟩
   ·rintro ⟨⟨p,hp,rfl⟩,hb⟩
    rcases List.mem_cons.1 hp with rfl | hp
    ·rw [hbl',if_pos rfl] at hb;cases hb
    ·exact ⟨⟨p,hp,rfl⟩,by rw [<- hsame _ (List.mem_map.2 ⟨p,hp,rfl⟩)];exact hb⟩
  rw [harr]
  refine ih (fuel+r.length) (by simp at hk;omega) r (lt ::pend) bl' had lc L w wa M Ma a fuel rfl ?_ h4 hr hg ha hB (fun h=>by cases h) ?_ ?_ ?_ ?_
  ·have e1:((idx (lt ::pend)).filter fun i=>!(bl' i).isSome)=lt.i ::((idx pend).filter fun i=>!(bl i).isSome):=by
    show ((lt.i ::idx pend).filter _)=_
    rw [List.filter_cons_of_pos (by simp [hbl'])]
    congr 1
    exact List.filter_congr fun j hj=>by rw [hsame j hj]
   rw [e1]
   simp only [cnt] at hfu
   simp only [List.length_cons]
   omega
  ·refine ⟨fun p hp=>?_,fun p hp b hb=>?_,fun p hp q hq hne b hb1 hb2=>?_,hri.had⟩
   ·rcases List.mem_cons.1 hp with rfl | hp
    ·exact hfr a ha
    ·exact hri.fr p hp
   ·rcases List.mem_cons.1 hp with rfl | hp
    ·rw [hbl',if_pos rfl] at hb;cases hb
    ·rw [hsame _ (List.mem_map.2 ⟨p,hp,rfl⟩)] at hb
     exact hri.dn p hp b hb
   ·rcases List.mem_cons.1 hp with rfl | hp
    ·rw [hbl',if_pos rfl] at hb1;cases hb1
    ·rcases List.mem_cons.1 hq with rfl | hq
     ·rw [hbl',if_pos rfl] at hb2;cases hb2
     ·rw [hsame _ (List.mem_map.2 ⟨p,hp,rfl⟩)] at hb1
      rw [hsame _ (List.mem_map.2 ⟨q,hq,rfl⟩)] at hb2
      exact hri.dj p hp q hq hne b hb1 hb2
  ·intro p hp q hq
   rcases List.mem_cons.1 hp with hp1 | hp
   ·rcases List.mem_cons.1 hq with hq1 | hq
    ·rw [hp1,hq1];exact ⟨fun _=>rfl,ha0,fun h=>absurd rfl h⟩
    ·rw [hp1];exact ⟨fun e=>absurd e.symm (hall q hq).2.1,(hall q hq).2.2.1,fun _ e=>(hall q hq).1 e.symm⟩
   ·rcases List.mem_cons.1 hq with hq1 | hq
    ·rw [hq1];exact ⟨fun e=>absurd e (hall p hp).2.1,(hall p hp).2.2.2,fun _ e=>(hall p hp).1 e⟩
    ·exact hpw p hp q hq
  ·exact List.nodup_cons.2 ⟨hni,hnd⟩
  ·intro p hp
   rcases List.mem_cons.1 hp with rfl | hp
   ·exact ⟨hlo,hLn,fun h=>by rw [List.contains_iff_mem.2 h] at h1;cases h1⟩
   ·exact hL p hp
 | .have_ i ::r,hk,hfu,hc,hD=>
  simp only [chkR,Bool.and_eq_true] at hc
  obtain ⟨h3,h4⟩:=hc
  have h5:=List.all_eq_true.1 h3 _ hsub
  simp only [Bool.or_eq_true,Bool.and_eq_true,Bool.not_eq_true'] at h5
  obtain ⟨lt,hm,hlti,hr⟩:=hD
  subst hlti
  cases hb:bl lt.i with
  | none=>
   rcases h5 with h5 | ⟨h5,h6⟩
   ·obtain ⟨_,h⟩:=mem_dones.1 (List.contains_iff_mem.1 h5)
    rw [hb] at h;cases h
   ·have hpos:0<((idx pend).filter fun i=>!(bl i).isSome).length:=List.length_pos_of_mem (a:=lt.i) (List.mem_filter.2 ⟨List.mem_map.2 ⟨lt,hm,rfl⟩,by simp [hb]⟩)
    obtain ⟨fuel',rfl⟩:∃ f,fuel=f+1:=⟨fuel - 1,by omega⟩
    refine wpAnyLast_all rfl (fun h=>by rw [h] at h5;simp at h5) fun j hj=>?_
    obtain ⟨p,hp,rfl,hpb⟩:=wait j (List.contains_iff_mem.1 (List.all_eq_true.1 h6 j hj))
    exact pendStep p hp hpb fuel' rfl
  | some b=>
   obtain ⟨k1,k2,k3,k4,k5,k6⟩:=hri.dn lt hm b hb
   have hidx:idx (pend.filter fun p=>!(Nat.beq p.i lt.i))=(idx pend).filter fun j=>!(Nat.beq j lt.i):=by
    unfold idx
    rw [List.filter_map]
    rfl
   have hmem:∀ p,p ∈ (pend.filter fun p=>!(Nat.beq p.i lt.i)) ↔ p ∈ pend/\p.i≠lt.i:=fun p=>by
    simp only [List.mem_filter,Bool.not_eq_true',and_congr_right_iff]
    intro _
    constructor
    ·intro h e;rw [e] at h;simp at h
    ·intro h
     cases hc:Nat.beq p.i lt.i with
     | true=>exact absurd (Nat.eq_of_beq_eq_true hc) h
     | false=>rfl
   have harr:arr ops.size lc (dones pend bl)=arr ops.size (lt.i ::lc) (dones (pend.filter fun p=>!(Nat.beq p.i lt.i)) bl):=arr_ext fun j _=>by
    rw [mem_dones,mem_dones]
    constructor
    ·rintro (h | ⟨⟨p,hp,rfl⟩,h⟩)
     ·exact .inl (List.mem_cons_of_mem _ h)
     ·by_cases e:p.i=lt.i
      ·exact .inl (by rw [e];exact List.mem_cons_self)
      ·exact .inr ⟨⟨p,(hmem p).2 ⟨hp,e⟩,rfl⟩,h⟩
    ·rintro (h | ⟨⟨p,hp,rfl⟩,h⟩)
     ·rcases List.mem_cons.1 h with rfl | h
      ·exact .inr ⟨⟨lt,hm,rfl⟩,by simp [hb]⟩
      ·exact .inl h
     ·exact .inr ⟨⟨p,((hmem p).1 hp).1,rfl⟩,h⟩
   rw [harr]
   have hLr:=hr wa Ma b hg k2 k3 k4 k5 k6
   refine ih (fuel+r.length) (by simp at hk;omega) r _ bl (hadB had b) (lt.i ::lc) _ wa wa Ma Ma a fuel rfl ?_ (by rw [hidx];exact h4) hLr (Grow.refl hg.lt) ?_ hB (fun _=>⟨rfl,rfl⟩) ?_ ?_ ?_ ?_
   ·have e1:((idx (pend.filter fun p=>!(Nat.beq p.i lt.i))).filter fun i=>!(bl i).isSome)=(idx pend).filter fun i=>!(bl i).isSome:=by
     rw [hidx,List.filter_filter]
     refine List.filter_congr fun j hj=>?_
     by_cases e:j=lt.i
     ·subst e;simp [hb]
     ·have:Nat.beq j lt.i=false:=by
       cases hc:Nat.beq j lt.i with
       | true=>exact absurd (Nat.eq_of_beq_eq_true hc) e
       | false=>rfl
      simp [this]
    rw [e1]
    simpa [cnt] using hfu
   ·refine ⟨ha.defers,ha.size,fun t u hu=>?_⟩
    simp only [lk] at hu
    cases hc:Nat.beq lt.d t with
    | true=>
     rw [hc] at hu
     simp only [cond_true,Option.some.injEq] at hu
     subst hu
     rw [<- Nat.eq_of_beq_eq_true hc]
     exact k1
    | false=>rw [hc] at hu;exact ha.get t u hu
   ·refine ⟨fun p hp=>hri.fr p ((hmem p).1 hp).1,fun p hp b' hb'=>?_,fun p hp q hq=>hri.dj p ((hmem p).1 hp).1 q ((hmem q).1 hq).1,fun x hx=>?_⟩
    ·obtain ⟨g1,g2,g3,g4,g5,g6⟩:=hri.dn p ((hmem p).1 hp).1 b' hb'
     refine ⟨g1,g2,g3,g4,g5,fun hx=>?_⟩
     rcases (show _=b\/had _ from hx) with rfl | hx
     ·exact hri.dj p ((hmem p).1 hp).1 lt hm ((hmem p).1 hp).2 _ hb' hb
     ·exact g6 hx
    ·rcases (show _=b\/had _ from hx) with rfl | hx
     ·exact (Array.getElem?_eq_some_iff.1 k2).1
     ·exact hri.had x hx
   ·exact fun p hp q hq=>hpw p ((hmem p).1 hp).1 q ((hmem q).1 hq).1
   ·rw [hidx];exact hnd.filter _
   ·intro p hp
    obtain ⟨hp,hne⟩:=(hmem p).1 hp
    obtain ⟨g1,g2,g3⟩:=hL p hp
    exact ⟨g1,lk_putL (dst:=some lt.d) g2 fun d hd=>by injection hd with hd;subst hd;exact (hpw p hp lt hm).2.2 hne |> Ne.symm,g3⟩
theorem WC.drawE {E:World->List (Nat×Value)->World->Prop} {ce:Array Bool->Bool} {tl:Nat} {id:Nat} {L:List (Nat×Value)} {w:World} {M:Nat->Prop} (C:Nat->Prop) (st:List Stp) (ds:List Nat) (hm:P.follows .mixedOrders=true) (hq:PanicQ Q) (hs:ops.size=cnt st+tl) (hc:chkR ops ds ce [] [] st=true) (hE:∀ (w0:World) (l:Array Bool) (L:List (Nat×Value)) (w:World) (a:Act),ce l=true->E w0 L w->Fr n L a->wpAnyLast P .any ops Q (fun w'=>Chg w0 w' C) ds tl l a w) (hM:∀ b,M b->b<w.heap.size)
  (h:∀ w1,Below w.heap.size w w1->DR P ops Q ds (E w1) C w1 n st [] (fun _=>False) L w1 M):WC P (.region id ops true) Q n L w:=fun a ha=>by
 have hb:=below_drew1 w
 refine wp_region_last (S:=fun w'=>Chg w.drew w' C) (ds:=ds) hm ?_
 have:=DR.sound (P:=P) (ops:=ops) (ds:=ds) (E:=E w.drew) (ce:=ce) (tl:=tl) (w0:=w.drew) (C:=C) hq (hE w.drew) (ops.size+st.length) st [] (fun _=>none) (fun _=>False) [] L w.drew w.drew M M a ops.size rfl (by rw [hs];simp [idx]) hc (h _ hb) (Grow.refl fun b hb'=>Nat.lt_of_lt_of_le (hM b hb') hb.size) ha (Chg.refl _ _) (fun _=>⟨rfl,rfl⟩) ⟨fun _ h=>by simp at h,fun _ h=>by simp at h,fun _ h=>by simp at h,fun _ h=>by simp at h⟩ (fun _ h=>by simp at h) (by simp [idx]) (fun _ h=>by simp at h)
 have e:arr ops.size [] (dones [] fun _=>none)=Array.replicate ops.size false:=by
  unfold arr
  apply Array.ext <;> simp [dones,idx]
 rw [e] at this
 exact this
theorem WC.drawR {id:Nat} {L:List (Nat×Value)} {w:World} {M:Nat->Prop} (C:Nat->Prop) (st:List Stp) (ds tail:List Nat) (hm:P.follows .mixedOrders=true) (hq:PanicQ Q) (hs:ops.size=cnt st+tail.length) (hc:chkR ops ds (fun l=>chkT ops l tail) [] [] st=true) (hM:∀ b,M b->b<w.heap.size)
  (h:∀ w1,Below w.heap.size w w1->DR P ops Q ds (DT P ops Q ds C w1 n tail) C w1 n st [] (fun _=>False) L w1 M):WC P (.region id ops true) Q n L w:=
 WC.drawE (E:=fun w1=>DT P ops Q ds C w1 n tail) (ce:=fun l=>chkT ops l tail) C st ds hm hq hs hc (fun w0 l L w a hc h ha=>DT.sound hq tail l L w a hc h ha) hM h
end
end Go.Proofs.Ytbjnmmgnonldnaa.E
