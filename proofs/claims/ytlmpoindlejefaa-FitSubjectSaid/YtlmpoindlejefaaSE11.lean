/- Joined. -/
import Derived.Test.YtlmpoindlejefaaSE10
import Derived.Maps.Keyed
import Derived.Carry
set_option linter.unusedVariables false
namespace Go.Proofs.Ytlmpoindlejefaa.E
open Go Go.RowKit
def mfind:List MapEntry->Int->Nat->Option (Nat×Value)
 | [],_,_=>none
 | e ::es,k,i=>match e.key with
  | .int _ k'=>if k=k' then some (i,e.val) else mfind es k (i+1)
  | _=>mfind es k (i+1)
def intKeys (es:List MapEntry):Prop:=∀ e ∈ es,∃ k,e.key= .int .i64 k
def mread (es:List MapEntry) (k:Int):Value:=match mfind es k 0 with
 | some (_,v)=>v
 | none=>.bool false
theorem mfind_now:∀ (es:List MapEntry) (k:Int) (i:Nat),intKeys es->Instr.findNow (.int .i64) (.int .i64 k) es i=some (mfind es k i)
 | [],_,_,_=>rfl
 | e ::es,k,i,h=>by
  obtain ⟨k',hk⟩:=h e (by simp)
  have ih:=mfind_now es k (i+1) fun e he=>h e (by simp [he])
  unfold Instr.findNow mfind
  rw [hk]
  simp only [Instr.sameNow]
  by_cases c:k=k'
  ·simp [c]
  ·rw [show (k == k')=false from by simpa using c,if_neg c];exact ih
theorem mfind_shift:∀ (es:List MapEntry) (k:Int) (i:Nat),mfind es k (i+1)=(mfind es k i).map fun p=>(p.1+1,p.2)
 | [],_,_=>rfl
 | e ::es,k,i=>by
  unfold mfind
  split
  ·split
   ·rfl
   ·exact mfind_shift es k (i+1)
  ·exact mfind_shift es k (i+1)
theorem mfind_at:∀ (es:List MapEntry) (k:Int) (j:Nat) (v:Value),intKeys es->mfind es k 0=some (j,v)->∃ e,es[j]? =some e/\e.key= .int .i64 k
 | [],_,_,_,_,h=>by simp [mfind] at h
 | e ::es,k,j,v,hk,h=>by
  obtain ⟨k',he⟩:=hk e (by simp)
  unfold mfind at h
  rw [he] at h
  simp only at h
  by_cases c:k=k'
  ·rw [if_pos c] at h
   obtain ⟨rfl,rfl⟩:=by simpa using h
   exact ⟨e,rfl,by rw [he,c]⟩
  ·rw [if_neg c,mfind_shift] at h
   obtain ⟨⟨j',v'⟩,h1,h2⟩:=Option.map_eq_some_iff.1 h
   obtain ⟨rfl,rfl⟩:=by simpa using h2
   obtain ⟨e',h3,h4⟩:=mfind_at es k j' v' (fun e he=>hk e (by simp [he])) h1
   exact ⟨e',by simpa using h3,h4⟩
theorem mread_push (es:List MapEntry) (k:Int) (v:Value) (c:Nat) (hn:mfind es k 0=none) (k':Int):mread (es ++ [⟨.int .i64 k,v,c⟩]) k'=if k'=k then v else mread es k':=by
 have go:∀ (es:List MapEntry) (i:Nat),mfind es k i=none->mfind (es ++ [⟨.int .i64 k,v,c⟩]) k' i=if k'=k then (some (i+es.length,v)) else mfind es k' i:=by
  intro es
  induction es with
  | nil=>intro i _;simp [mfind]
  | cons e es ih=>
   intro i h
   unfold mfind at h |-
   simp only [List.cons_append,List.length_cons]
   cases he:e.key <;> rw [he] at h <;> simp only at h |-
   case int kk k2=>
    by_cases c1:k=k2
    ·rw [if_pos c1] at h;cases h
    ·rw [if_neg c1] at h
     have:=ih (i+1) h
     by_cases c2:k'=k
     ·rw [if_neg (by rw [c2];exact c1),this,if_pos c2,if_pos c2];congr 2;omega
     ·rw [this,if_neg c2,if_neg c2]
   all_goals
    have:=ih (i+1) h
    rw [this]
    by_cases c2:k'=k
    ·rw [if_pos c2,if_pos c2];congr 2;omega
    ·rw [if_neg c2,if_neg c2]
 unfold mread
 rw [go es 0 hn]
 by_cases c2:k'=k
 ·simp [c2]
 ·simp [c2]
theorem mread_set:∀ (es:List MapEntry) (k:Int) (j:Nat) (v0 v:Value) (e e2:MapEntry),intKeys es->mfind es k 0=some (j,v0)->es[j]? =some e->e2.key= .int .i64 k->e2.val=v->∀ k',mread (es.set j e2) k'=if k'=k then v else mread es k':=by
 intro es k j v0 v e e2 hk hf he h1 h2 k'
 have go:∀ (es:List MapEntry) (j i:Nat) (v0:Value) (e:MapEntry),intKeys es->mfind es k 0=some (j,v0)->es[j]? =some e->mfind (es.set j e2) k' i=if k'=k then some (i+j,v) else mfind es k' i:=by
  intro es
  induction es with
  | nil=>intro j i v0 e _ h;simp [mfind] at h
  | cons x es ih=>
   intro j i v0 e hk h he
   obtain ⟨kx,hx⟩:=hk x (by simp)
   unfold mfind at h
   rw [hx] at h
   simp only at h
   by_cases c:k=kx
   ·rw [if_pos c] at h
    obtain ⟨rfl,rfl⟩:=by simpa using h
    simp only [List.set_cons_zero]
    unfold mfind
    rw [h1,hx,h2]
    simp only
    by_cases c2:k'=k
    ·rw [if_pos c2,if_pos c2];rfl
    ·rw [if_neg c2,if_neg c2,if_neg (by rw [<- c];exact c2)]
   ·rw [if_neg c,mfind_shift] at h
    obtain ⟨⟨j',v'⟩,h3,h4⟩:=Option.map_eq_some_iff.1 h
    obtain ⟨rfl,rfl⟩:=by simpa using h4
    simp only [List.set_cons_succ]
    unfold mfind
    rw [hx]
    simp only
    rw [ih j' (i+1) v' e (fun e he=>hk e (by simp [he])) h3 (by simpa using he)]
    by_cases c2:k'=k
    ·rw [if_neg (by rw [c2];exact c),if_pos c2,if_pos c2];congr 2;omega
    ·rw [if_neg c2,if_neg c2]
 unfold mread
 rw [go es j 0 v0 e hk hf he]
 by_cases c2:k'=k
 ·simp [c2]
 ·simp [c2]
def mset (f:Int->Bool) (k:Int) (v:Bool):Int->Bool:=fun i=>if i=k then v else f i
structure Mp (Wr M:Nat->Prop) (w:World) (b:Nat) (f:Int->Bool):Prop where
 m:M b
 wr:Wr b
 row:∃ es clock,w.heap[b]? =some (.map es clock)/\intKeys es.toList/\∀ k,mread es.toList k= .bool (f k)
section
variable {Wr Wr' Wf M M' M0 C:Nat->Prop} {w w' w0:World} {b:Nat} {f:Int->Bool}
theorem Mp.lt (h:Mp Wr M w b f):b<w.heap.size:=by obtain ⟨es,c,h,_⟩:=h.row;exact (Array.getElem?_eq_some_iff.1 h).1
theorem Mp.ltB (h:Mp Wr M w b f):∀ x,Bb b x->x<w.heap.size:=fun x hx=>by rw [show x=b from hx];exact h.lt
theorem Mp.keptC (h:Mp Wr M w b f) (hc:Chg w w' C) (hd:Dis (Bb b) C) (hi:∀ b,M b->M' b):Mp Wr M' w' b f:=by
 obtain ⟨es,c,h1,h2⟩:=h.row
 exact ⟨hi b h.m,h.wr,es,c,(hc.block b h.lt (hd b rfl)).trans h1,h2⟩
variable {P:Program} {o:Oper} {n:Nat} {L:List (Nat×Value)} {T kt vt:TypeId} {x y z:Operand} {k:Int} {v:Bool}
theorem o_mkm (ho:o.op= .makeMap T none) (hS:St Wr w0 M0 w M) (hW:∀ b,Wf b->Wr b) (hF:∀ b,w0.heap.size<=b->Wf b):OpC P o n L w (fun v w'=>∃ b M',v= .map (some b)/\Mp Wf M' w' b (fun _=>false)/\St Wr w0 M0 w' M'/\Step M w M' w'/\Below w.heap.size w w'/\(∀ c,M c->M' c)/\w.heap.size<=b):=fun a ha K Q hK=>by
 have hr:(execOp a.eval o).run P w= .ok (.value (.map (some w.heap.size))) (w.alloc (.map #[] 0)):=by
  simp [execOp,ho,Instr.makeMap]
 unfold Oper.wp
 rw [hr]
 have hb:=below_alloc1 w (.map #[] 0)
 have hst:Step M w (ins M w.heap.size) (w.alloc (.map #[] 0)):=⟨hb.size,fun b h _=>hb.block b h,fun b h=>h.elim (fun e=>.inr (by omega)) .inl⟩
 refine hK _ _ ⟨_,ins M w.heap.size,rfl,⟨.inl rfl,hF _ hS.eff.size,#[],0,heap_alloc_new w _,fun e he=>by simp at he,fun k=>rfl⟩,⟨hS.eff.below hb,hS.step.trans hst,fun b h=>.inr (hS.inc b h),fun b h=>?_⟩,hst,hb,fun c h=>.inr h,Nat.le_refl _⟩
 rcases h with rfl | h
 ·simp
 ·have:=hS.lt b h
  simp
  omega
theorem o_mlk (hu:P.underlying T=some (.map kt vt)) (hk:P.underlying kt=some (.int .i64)) (hz:(P.info? vt).bind (·.zero)=some (.bool false)) (hm:Mp Wr M w b f) (ho:o.op= .lookup T x y false:=by rfl) (hx:ev L x=some (.map (some b)):=by rfl) (hy:ev L y=some (.int .i64 k):=by rfl):OpV P o n L w (.bool (f k)):=fun a ha=>by
 obtain ⟨es,c,h1,h2,h3⟩:=hm.row
 have hf:=MapKept.run_findKey (w:=w) hk (mfind_now es.toList k 0 h2)
 have hc:=MapKept.run_checkKey (w:=w) (k:=.int .i64 k) hk (by simp [MapKept.IsKey]) es.isEmpty 9999
 obtain ⟨inf,hi,hz⟩:=Option.bind_eq_some_iff.1 hz
 have h4:=h3 k
 unfold mread at h4
 cases hq:mfind es.toList k 0 with
 | none=>
  rw [hq] at h4 hf
  simp only at h4
  simp [execOp,ho,ha.ev hx,ha.ev hy,Instr.lookup,run_underlying hu,MapKept.run_getObj_map h1,hc,hf,Result.andThen,zeroValue,typeInfo,hi,hz,<- h4]
 | some p=>
  rw [hq] at h4 hf
  simp only at h4
  simp [execOp,ho,ha.ev hx,ha.ev hy,Instr.lookup,run_underlying hu,MapKept.run_getObj_map h1,hc,hf,Result.andThen,<- h4]
theorem o_mup (hu:P.underlying T=some (.map kt vt)) (hk:P.underlying kt=some (.int .i64)) (hm:Mp Wf M w b f) (hW:∀ b,Wf b->Wr b) (hS:St Wr w0 M0 w M) (ho:o.op= .mapUpdate T x y z:=by rfl) (hx:ev L x=some (.map (some b)):=by rfl) (hy:ev L y=some (.int .i64 k):=by rfl) (hv:ev L z=some (.bool v):=by rfl) :
  OpC P o n L w (fun _ w'=>Mp Wf M w' b (mset f k v)/\St Wr w0 M0 w' M/\Step M w M w'/\w.grownBy w' (some b)):=fun a ha K Q hK=>by
 obtain ⟨es,c,h1,h2,h3⟩:=hm.row
 have hf:=MapKept.run_findKey (w:=w) hk (mfind_now es.toList k 0 h2)
 have hc:=MapKept.run_checkKey (w:=w) (k:=.int .i64 k) hk (by simp [MapKept.IsKey]) false 9999
 have fin:∀ es' c',(execOp a.eval o).run P w= .ok .skip (ChangeMaps.setBlock w b (.map es' c'))->intKeys es'.toList->(∀ k',mread es'.toList k'=if k'=k then .bool v else mread es.toList k')->o.wp P a w K Q:=by
  intro es' c' hr hi hv
  unfold Oper.wp
  rw [hr,Oper.upon_skip]
  have hg:w.grownBy (ChangeMaps.setBlock w b (.map es' c')) (some b):=⟨rfl,rfl,rfl,by simp [ChangeMaps.setBlock],fun i _ hi=>ChangeMaps.heap_setBlock_other h1 _ (fun e=>hi (by rw [e]))⟩
  have hst:Step M w M (ChangeMaps.setBlock w b (.map es' c')):=⟨hg.size,fun c hc hn=>hg.block c hc (fun e=>hn (by injection e with e;rw [e];exact hm.m)),fun _ h=>.inl h⟩
  refine hK _ _ ⟨⟨hm.m,hm.wr,es',c',ChangeMaps.heap_setBlock_same h1 _,hi,fun k'=>?_⟩,⟨hS.eff.grown hg (fun c e=>by injection e with e;rw [<- e];exact hW _ hm.wr),hS.step.trans hst,hS.inc,fun c hc=>Nat.lt_of_lt_of_le (hS.lt c hc) hg.size⟩,hst,hg⟩
  rw [hv,h3]
  unfold mset
  by_cases e:k'=k <;> simp [e]
 cases hq:mfind es.toList k 0 with
 | none=>
  rw [hq] at hf
  refine fin (es.push ⟨.int .i64 k,.bool v,c⟩) (c+1) ?_ ?_ ?_
  ·simp [execOp,ho,ha.ev hx,ha.ev hy,ha.ev hv,Instr.mapUpdate,run_underlying hu,MapKept.run_getObj_map h1,hc,hf,MapKept.run_setObj_map _ h1,Result.andThen,ChangeMaps.setBlock]
  ·intro e he
   simp only [Array.toList_push,List.mem_append,List.mem_singleton] at he
   rcases he with he | rfl
   ·exact h2 e he
   ·exact ⟨k,rfl⟩
  ·intro k'
   rw [Array.toList_push]
   exact mread_push _ _ _ _ hq k'
 | some p=>
  obtain ⟨j,v0⟩:=p
  rw [hq] at hf
  obtain ⟨e,he,hke⟩:=mfind_at _ _ _ _ h2 hq
  have hj:es[j]? =some e:=by simpa using he
  have hlist:(es.modify j (fun e'=>{ e' with key:=.int .i64 k,val:=.bool v })).toList=es.toList.set j { e with key:=.int .i64 k,val:=.bool v }:=by rw [Array.toList_modify,ChangeMaps.modify_eq_set _ _ _ _ he]
  refine fin (es.modify j (fun e'=>{ e' with key:=.int .i64 k,val:=.bool v })) c ?_ ?_ ?_
  ·simp [execOp,ho,ha.ev hx,ha.ev hy,ha.ev hv,Instr.mapUpdate,run_underlying hu,MapKept.run_getObj_map h1,hc,hf,hj,hke,Instr.keyThatStays,Instr.sameBits,MapKept.run_setObj_map _ h1,Result.andThen,ChangeMaps.setBlock]
  ·rw [hlist]
   intro x hx
   rcases List.mem_or_eq_of_mem_set hx with hx | rfl
   ·exact h2 x hx
   ·exact ⟨k,rfl⟩
  ·rw [hlist]
   exact mread_set _ _ _ _ _ e _ h2 hq he rfl rfl
end
end Go.Proofs.Ytlmpoindlejefaa.E
namespace Go.Proofs.Ytlmpoindlejefaa.E
open Go Go.RowKit
abbrev I6 (n:Int):Value:=.int .i64 n
theorem dT {p:Prop} [Decidable p] (h:p):decide p=true:=decide_eq_true h
theorem dF {p:Prop} [Decidable p] (h: ¬ p):decide p=false:=decide_eq_false h
theorem nB {a b:Nat} (h:Nat.ble a b=true):a<=b:=Nat.le_of_ble_eq_true h
theorem wB {α β:Type} {m:W α} {f:α->W β} {p:β->Prop} (h:(W.bind m f).run p):m.run fun a=>(f a).run p:=h
theorem wR {α:Type} {c:Prop} {m:W α} {p:α->Prop} (h:(W.req c m).run p):c/\m.run p:=h
theorem fA {n:Nat} {X:Nat->Prop} :∀ b,b<n->n<=b->X b:=fun _ hb h=>absl hb h
theorem fJ {p:Prop} (h:p):p:=h
theorem aR {w:World} {b:Nat} {cs:Array Value} {t:TypeId} {fr:Nat×Nat} (h:w.heap[b]? =some (.cells cs t fr)):At w b 0 cs.toList:=At.of_row h
theorem dS {A B:Nat->Prop} (h:Dis A B):Dis B A:=h.symm
theorem bq {α:Type} {c:Prop} {i:Decidable c} {a b:W α} {p:α->Prop} (H:(@ite _ c i a b).run p):c/\a.run p\/¬ c/\b.run p:=by
 by_cases h:c
 ·exact .inl ⟨h,by rwa [if_pos h] at H⟩
 ·exact .inr ⟨h,by rwa [if_neg h] at H⟩
theorem sa {k:IntKind} {x:Int} (h:InK k x:=by first | omega | (dsimp only;omega) | simp [InK]):InK k x:=h
theorem Step.t {M M' M'':Nat->Prop} {w w' w'':World} (h:Step M w M' w') (k:Step M' w' M'' w''):Step M w M'' w'':=Step.trans h k
theorem sB {Wr M0 M:Nat->Prop} {w0 w w':World} (h:St Wr w0 M0 w M) (k:Below w.heap.size w w'):St Wr w0 M0 w' M/\Step M w M w':=⟨h.below k,Step.below k⟩
section
variable {P:Program} {L:List (Nat×Value)} {w:World} {x:Tmp} {v:Value}
theorem rv (h:lk L x=some v):RV P L w (.tmp x) v:=RV.tmp h
end
end Go.Proofs.Ytlmpoindlejefaa.E
namespace Go.Proofs.Ytlmpoindlejefaa.E
open Go Go.RowKit
abbrev sn:Value:=.slice none 0 0
abbrev pq (b:Nat):Value:=.pointer (some ⟨b,0,none⟩)
theorem ixb {a b:Prop} (h:a) (e:a->b:=by first | exact fun h=>h | (intro h;(try simp only [List.length_set] at h |-);first | exact h | omega)):b:=e h
section
variable {P:Program} {ops:Array Oper} {Q:Exit->Act->World->Prop} {rest:List Oper} {n:Nat} {L:List (Nat×Value)} {w w0:World} {o o1 o2 o3:Oper} {d:Nat} {v u:Value} {x y z:Operand} {T T' e:TypeId} {k:IntKind} {t:TypeDesc} {Wf Wr M M0:Nat->Prop} {b:Nat} {cs:Array Value}
theorem xm (ho:o.op= .move x:=by rfl) (hx:ev L x=some v:=by rfl) (hw:wantB ops L o=some true:=by rfl) (hd:o.dst=some d:=by rfl) (hn:Nat.blt d n=true:=by rfl) (k:WL P ops Q rest n ((d,v) ::L) w):WL P ops Q (o ::rest) n L w:=va (o_mv ho hx) k hw hd hn
theorem xs (ho:o.op= .assign x:=by rfl) (hx:ev L x=some v:=by rfl) (hw:wantB ops L o=some true:=by rfl) (hd:o.dst=some d:=by rfl) (hn:Nat.blt d n=true:=by rfl) (k:WL P ops Q rest n ((d,v) ::L) w):WL P ops Q (o ::rest) n L w:=va (o_as ho hx) k hw hd hn
theorem xe {vs:Array Value} {i:Nat} (ho:o.op= .extract x i:=by rfl) (hx:ev L x=some (.tuple vs):=by rfl) (hv:vs[i]? =some v:=by rfl) (hw:wantB ops L o=some true:=by rfl) (hd:o.dst=some d:=by rfl) (hn:Nat.blt d n=true:=by rfl) (k:WL P ops Q rest n ((d,v) ::L) w):WL P ops Q (o ::rest) n L w:=va (o_ex ho hx hv) k hw hd hn
theorem xf (ho:o.op= .pick x y z:=by rfl) (hx:ev L x=some (.bool false):=by rfl) (hy:ev L z=some v:=by rfl) (hw:wantB ops L o=some true:=by rfl) (hd:o.dst=some d:=by rfl) (hn:Nat.blt d n=true:=by rfl) (k:WL P ops Q rest n ((d,v) ::L) w):WL P ops Q (o ::rest) n L w:=va (o_pkf ho hx hy) k hw hd hn
theorem xw (h1:wantB ops L o1=some false:=by rfl) (n1:fits o1.dst n=true:=by rfl) (h2:wantB ops (putL o1.dst undef L) o2=some false:=by rfl) (n2:fits o2.dst n=true:=by rfl) (h3:wantB ops (putL o2.dst undef (putL o1.dst undef L)) o3=some false:=by rfl) (n3:fits o3.dst n=true:=by rfl) (k:WL P ops Q rest n (putL o3.dst undef (putL o2.dst undef (putL o1.dst undef L))) w):WL P ops Q (o1 ::o2 ::o3 ::rest) n L w:=xo h1 n1 (xo h2 n2 (xo h3 n3 k))
theorem la {b off:Nat} (hu:P.underlying T=some t) (hc:w.cell? ⟨b,off,none⟩ =some v) (ho:o.op= .load T x:=by rfl) (hd:isAgg t=false:=by rfl) (hx:ev L x=some (.pointer (some ⟨b,off,none⟩)):=by rfl):OpV P o n L w v:=o_ld1 ho hu hd hx hc
theorem ln {b off:Nat} {cs:List Value} (hu:P.underlying T=some t) (hs:(P.info? T).map (·.size)=some cs.length) (hc:At w b off cs) (ho:o.op= .load T x:=by rfl) (hd:isAgg t=true:=by rfl) (hx:ev L x=some (.pointer (some ⟨b,off,none⟩)):=by rfl):OpV P o n L w (.agg cs.toArray):=o_ldn ho hu hd hs hx hc
theorem fa_ {i b off s:Nat} {fs:Array Field} {f:Field} (hu:P.underlying T=some (.struct fs)) (hs:(P.info? T').map (·.size)=some (s+1)) (ho:o.op= .fieldAddr T x i:=by rfl) (hf:fs[i]? =some f:=by rfl) (hx:ev L x=some (.pointer (some ⟨b,off,none⟩)):=by rfl) (ht:f.type=T':=by rfl):OpV P o n L w (.pointer (some ⟨b,off+f.offset,none⟩)):=o_fa ho hu hf (ht ▸ hs) hx
theorem iA {b off m c s:Nat} {A:Option Addr} {i:Int} (hu:P.underlying T=some (.slice e)) (hs:(P.info? e).map (·.size)=some s) (hA:A=some ⟨b,off,none⟩) (h:0<=i/\i<m) (ho:o.op= .indexAddr T x y:=by rfl) (hx:ev L x=some (.slice A m c):=by rfl) (hy:ev L y=some (.int k i):=by rfl):OpV P o n L w (.pointer (some ⟨b,off+i.toNat*s,none⟩)):=o_iaA ho hu hs hx hA hy h.1 h.2
theorem iV {b off m c s:Nat} {i:Int} (hu:P.underlying T=some (.slice e)) (hs:(P.info? e).map (·.size)=some s) (hv:v= .slice (some ⟨b,off,none⟩) m c) (h:0<=i/\i<m) (ho:o.op= .indexAddr T x y:=by rfl) (hx:ev L x=some v:=by rfl) (hy:ev L y=some (.int k i):=by rfl):OpV P o n L w (.pointer (some ⟨b,off+i.toNat*s,none⟩)):=o_iaV ho hu hs hx hv hy h.1 h.2
theorem stp {off:Nat} (ho:o.op= .store T x y) (hx:ev L x=some (.pointer (some ⟨b,off,none⟩))) (hy:ev L y=some u) (hs:(P.info? T).map (·.size)=some u.cells.size) {T':TypeId} (h1:∀ z ∈ u.cells.toList,z.oneCell'=true) (hb:Mb Wf M w b T' cs) (hW:∀ b,Wf b->Wr b) (hS:St Wr w0 M0 w M) (hl:off+u.cells.size<=cs.size:=by exact nB rfl):OpC P o n L w (fun _ w'=>Mb Wf M w' b T' (cs.toList.take off ++ u.cells.toList ++ cs.toList.drop (off+u.cells.toList.length)).toArray/\St Wr w0 M0 w' M/\Step M w M w'/\w.grownBy w' (some b)):=o_stpW ho hx hy hs hl h1 hb hW hS
end
end Go.Proofs.Ytlmpoindlejefaa.E
namespace Go.Proofs.Ytlmpoindlejefaa.E
open Go Go.RowKit
section
variable {P:Program} {o:Oper} {n:Nat} {L:List (Nat×Value)} {w:World} {x y:Operand} {T e:TypeId} {k k':IntKind} {Wr M:Nat->Prop} {α:Type} {a:Kd α}
theorem a_make {z0:Value} {bytes s:Nat} {i:Int} (ho:o.op= .makeSlice T x y) (hu:P.underlying T=some (.slice e)) (hi:(P.info? e).map (fun i=>(i.zero,i.size,i.bytes))=some (some z0,s,bytes)) (hx:ev L x=some (.int k i)) (hy:ev L y=some (.int k' i)) (h0:0<=i) (hb:i*bytes<=281474976710656) (hb0:0<bytes) :
  OpA P o n L (.cells (madeCells z0.cells (i.toNat*s)) e) (fun b=>.slice (some ⟨b,0,none⟩) i.toNat i.toNat):=fun act w ha=>by
 obtain ⟨c,rfl⟩:=Int.eq_ofNat_of_zero_le h0
 obtain ⟨inf,hinf,hzz⟩:=Option.map_eq_some_iff.1 hi
 simp only [Prod.mk.injEq] at hzz
 obtain ⟨hz0,hz1,hz2⟩:=hzz
 have hb':c*bytes<=281474976710656:=by
  have:((c*bytes:Nat):Int)<=281474976710656:=by rw [Int.natCast_mul];exact hb
  omega
 have hc63:c<=281474976710656:=Nat.le_trans (Nat.le_mul_of_pos_right _ hb0) hb'
 have hbi:(inf.bytes:Int)*(c:Int)<=281474976710656:=by
  rw [hz2,Int.mul_comm,<- Int.natCast_mul]
  omega
 have hr:=run_make (P:=P) w T e inf z0 hu hinf hz0 k k' (c:Int) (c:Int) (by omega) (by omega) hbi (by omega)
 rw [hz1] at hr
 simp only [Int.toNat_natCast] at hr |-
 simp only [execOp,ho,ha.ev hx,ha.ev hy,Sem.run_bind,hr,Result.andThen_ok]
 rfl
theorem Own.late {z0:Value} {x0:α} {b m:Nat} (hr:w.heap[b]? =some (.cells (madeCells z0.cells (m*a.sz)) e (0,0))) (hM:M b) (hW:Wr b) (hz:z0.cells.size=a.sz) (hm:m<=281474976710656) (h0:∀ M w,a.R M w x0 z0.cells.toList):Own Wr M w a e (.slice (some ⟨b,0,none⟩) m m) (List.replicate m x0):=by
 refine ⟨by simpa using hm,(List.replicate m z0.cells.toList).flatten,⟨?_,.inr ⟨b,m,madeCells z0.cells (m*a.sz),?_,Nat.zero_le _,hr,?_,?_,?_,?_⟩⟩,Cs.zeros (h0 _ _) m,fun g hg=>?_⟩
 ·simp [List.length_flatten,hz]
 ·simp
 ·simp
 ·simp only [maxLen];omega
 ·simp [size_madeCells]
 ·rw [zeros_cells z0 m a.sz hz]
  exact List.take_of_length_le (by simp [List.length_flatten,hz])
 ·have:b=g:=by simpa [Value.ownBlock] using hg
  subst this
  exact ⟨hM,hW⟩
theorem Own.vv {v v':Value} {xs:List α} (hv:v=v') (h:Own Wr M w a e v xs):Own Wr M w a e v' xs:=hv ▸ h
theorem B1.sg {b m c:Nat} :∀ x,B1 (.slice (some ⟨b,0,none⟩) m c) x->x=b:=fun x h=>by
 have:b=x:=by simpa [B1,Value.ownBlock] using h
 exact this.symm
theorem B1.sgv {b m c:Nat} {v:Value} (hv: .slice (some ⟨b,0,none⟩) m c=v):∀ x,B1 v x->x=b:=by subst hv;exact B1.sg
end
section
variable {Wr M M1:Nat->Prop} {w w1 w2:World} {α:Type} {a:Kd α} {e1 e2:TypeId} {v u:Value} {us:List Value} {xss:List (List α)} {i:Int}
end
section
variable {P:Program} {ops:Array Oper} {Q:Exit->Act->World->Prop} {ds tail:List Nat} {C:Nat->Prop} {w0 w:World} {n i:Nat} {r:List Stp} {pend:List Late} {had:Nat->Prop} {L:List (Nat×Value)} {M:Nat->Prop}
theorem DR.have1v {lt:Late} (k:Nat) (hk:pend[k]? =some lt) (he:lt.i=i)
  (h:∀ w1 M1 b v,lt.mkv b=v->Grow w M w1 M1->w1.heap[b]? =some lt.obj->w0.heap.size<=b->(lt.own=true->M1 b)->(lt.own=false->¬ M1 b)->¬ had b->DR P ops Q ds tail C w0 n r (pend.filter fun p=>!(Nat.beq p.i i)) (hadB had b) ((lt.d,v) ::L) w1 M1):DR P ops Q ds tail C w0 n (.have_ i ::r) pend had L w M:=
 DR.have1 k hk he fun w1 M1 b h1 h2 h3 h4 h5 h6=>h w1 M1 b _ rfl h1 h2 h3 h4 h5 h6
end
end Go.Proofs.Ytlmpoindlejefaa.E
namespace Go.Proofs.Ytlmpoindlejefaa.E
open Go Go.RowKit
section
variable {P:Program} {o:Oper} {n:Nat} {L:List (Nat×Value)} {w:World} {x y:Operand} {T e:TypeId} {k k' k'':IntKind} {Wr M N:Nat->Prop} {α:Type} {a:Kd α} {xs:List α}
theorem o_slt3 {A:Option Addr} {m c:Nat} {j g:Int} {hi mx:Operand} (ho:o.op= .slice T x none (some hi) (some mx)) (hu:P.underlying T=some (.slice e)) (hx:ev L x=some (.slice A m c)) (hhi:ev L hi=some (.int k j)) (hmx:ev L mx=some (.int k' g)) (hc:m<=c) (h0:0<=j) (h2:j<=g) (h3:g<=m) {q s:Nat} (hq:q=j.toNat) (hs:(P.info? e).map (·.size)=some s) :
  OpV P o n L w (.slice A q g.toNat):=fun act ha=>by
 obtain ⟨inf,hinf,hz⟩:=Option.map_eq_some_iff.1 hs
 subst hq
 have b1:(Instr.sliceBound (.int k' g) c .slice3Acap).run P w= .ok g.toNat w:=run_sliceBound w k' g c _ (by omega) (by omega)
 have b2:(Instr.sliceBound (.int k j) g.toNat .slice3B).run P w= .ok j.toNat w:=run_sliceBound w k j g.toNat _ h0 (by omega)
 simp only [execOp,ho,ha.ev hx,Option.map_some,ha.ev hhi,ha.ev hmx,Instr.sliceAt,Option.map_none,Sem.run_bind,run_underlying hu,Result.andThen_ok,Instr.slice,Instr.sliceBounds,Sem.run_pure,b1,b2,if_true,sizeOf,typeInfo,run_program,hinf,Nat.sub_zero,Nat.zero_mul]
 cases A <;> simp [Addr.add]
end
section
variable {P:Program} {w:World}
theorem run_append_zeros (base:Nat) (t u ty e:TypeId) (i:TypeInfo) (z:Value) (size bytes:Nat) {kk:IntKind} (ht:P.underlying t=some (.slice e)) (hu:P.underlying u=some (.int kk)) (hi:P.info? e=some i) (hz:i.zero=some z)
  (hsize:i.size=size) (hby:i.bytes=bytes) (hzs:z.cells.size=size) (hsz:0<size)
  (v:Value) (n:Nat) (xs:List Value) (hown:w.ownsRow base e size v n xs) {k:IntKind} (m:Nat) (h1:∀ u ∈ z.cells.toList,u.oneCell'=true)
  (h63:n+m<=maxLen) (hbytes:(n+m)*bytes<=140737488355328) (hbase:base<=w.heap.size) (hm48:m<=140737488355328) (hmb:m*bytes<=140737488355328) :
  ∃ v' w',(Builtin.append_ #[t,u] ty #[v,.int k (m:Int)]).run P w= .ok v' w'/\w'.ownsRow base e size v' (n+m) (xs ++ (Builtin.zeroCells z.cells m).toList)/\w.grownBy w' v.ownBlock/\(v'.ownBlock=v.ownBlock\/v'.ownBlock=some w.heap.size):=by
 subst hsize
 subst hby
 have hw:IntKind.i64.wrap (m:Int)=m:=wrap_of_I64 (by show _/\_;omega)
 have hneg: ¬ ((m:Int)<0):=by omega
 have hbig: ¬ ((281474976710656:Int)<(m:Int)*(i.bytes:Int)):=by rw [<- Int.natCast_mul];omega
 have hsmall:n+m<=9223372036854775807:=by simp only [maxLen] at h63;omega
 generalize hnews:(Builtin.zeroCells z.cells m).toList=news
 have hl:news.length=m*i.size:=by rw [<- hnews,Array.length_toList,size_zeroCells,hzs]
 have hna:Builtin.zeroCells z.cells m=news.toArray:=by rw [<- hnews,Array.toArray_toList]
 have hone:∀ u ∈ news,u.oneCell'=true:=by
  intro u hu
  rw [<- hnews] at hu
  simp only [Builtin.zeroCells,Array.toList_map,List.mem_map] at hu
  obtain ⟨j,_,rfl⟩:=hu
  refine h1 _ ?_
  have:j % z.cells.size<z.cells.size:=Nat.mod_lt _ (by omega)
  rw [getElem!_pos z.cells _ this]
  exact Array.getElem_mem_toList this
 have hlen:(xs ++ news).length=(n+m)*i.size:=by rw [List.length_append,hown.1,hl,Nat.add_mul]
 have grown:∀ (old:Nat),old<n+m->∀ (row:Option Nat),
   (w.drew.alloc (.cells (xs.toArray ++ news.toArray ++ Builtin.zeroCells z.cells (grownCap w (n+m) old e - (n+m))) e)).ownsRow base e i.size
    (.slice (some ⟨w.heap.size,0,none⟩) (n+m) (grownCap w (n+m) old e)) (n+m) (xs ++ news)/\
   w.grownBy (w.drew.alloc (.cells (xs.toArray ++ news.toArray ++ Builtin.zeroCells z.cells (grownCap w (n+m) old e - (n+m))) e)) row:=by
  intro old ho row
  have hge:=grownCap_ge w (n+m) old e
  have hcm:grownCap w (n+m) old e<=maxLen:=grownCap_le_maxLen w (n+m) old e h63
  refine ⟨⟨hlen,.inr ⟨w.heap.size,_,_,rfl,hbase,heap_alloc_new w.drew _,hge,hcm,?_,?_⟩⟩,⟨rfl,rfl,rfl,by simp,fun k hk _=>heap_alloc_old w.drew _ hk⟩⟩
  ·simp only [Array.size_append,List.size_toArray,size_zeroCells,hzs,hown.1,hl,<- Nat.add_mul]
   congr 1
   omega
  ·simp only [Array.toList_append,List.append_assoc]
   rw [<- List.append_assoc,<- hlen]
   exact List.take_left
 rcases hown.2 with ⟨rfl,rfl⟩ | ⟨g,cap,cur,rfl,hbg,hg,hnc,hcm,hcs,htake⟩
 ·have hx:xs= []:=List.eq_nil_of_length_eq_zero (by simpa using hown.1)
  subst hx
  by_cases hm:m=0
  ·subst hm
   have hn:news= []:=List.eq_nil_of_length_eq_zero (by simpa using hl)
   subst hn
   refine ⟨.slice none 0 0,w,?_,World.ownsRow_nil w base e i.size,⟨rfl,rfl,rfl,Nat.le_refl _,fun _ _ _=>rfl⟩,Or.inl rfl⟩
   have hw0:IntKind.i64.wrap 0=0:=hw
   simp [Builtin.append_,run_underlying ht,run_underlying hu,sizeOf,typeInfo,hi,asInt,asIntOf,hw0]
  ·have h0:0<m:=by omega
   have hge:=grownCap_ge w m 0 e
   have h48': ¬ (281474976710656<Builtin.nextslicecap m 0*i.bytes):=by rw [nextslicecap_zero h0];omega
   have h63': ¬ (9223372036854775807<(m:Int)):=by omega
   have hgr:=grown 0 (by omega) (Value.ownBlock (.slice none 0 0))
   simp only [Nat.zero_add,List.nil_append,Array.empty_append] at hgr |-
   refine ⟨_,_,?_,hgr.1,hgr.2,Or.inr rfl⟩
   have hne: ¬ (m*i.size=0):=by have:=Nat.mul_pos h0 hsz;omega
   have hsz':i.size≠0:=by omega
   simp [Builtin.append_,run_underlying ht,run_underlying hu,sizeOf,typeInfo,zeroValue,hi,hz,asInt,asIntOf,hw,hneg,hbig,hm,hsz',h63',h48',Question.forced,run_firstCells_none,newRow,grownCap,hna]
   exact fun h=>absurd h hne
 ·by_cases hroom:n+m<=cap
  ·have hfit:n*i.size+news.length<=cur.size:=by rw [hl,hcs,<- Nat.add_mul];exact Nat.mul_le_mul_right _ hroom
   have hst:=run_storeCells_at P g (n*i.size) e news 0 cur w hg (by simpa using hfit) hone
   simp only [Nat.add_zero] at hst
   refine ⟨.slice (some ⟨g,0,none⟩) (n+m) cap,w.setRow g (cur.toList.take (n*i.size) ++ news ++ cur.toList.drop (n*i.size+news.length)).toArray,?_,⟨hlen,.inr ⟨g,cap,_,rfl,hbg,setRow_heap w g cur _ e _ hg,hroom,hcm,?_,?_⟩⟩,⟨rfl,rfl,rfl,by simp,fun k _ hk=>setRow_other w g k _ (fun e=>hk (by simp [Value.ownBlock,e]))⟩,Or.inl rfl⟩
   ·by_cases hm:m=0
    ·subst hm
     have hn:news= []:=List.eq_nil_of_length_eq_zero (by simpa using hl)
     subst hn
     have hw0:IntKind.i64.wrap 0=0:=hw
     have hroom':n<=cap:=hroom
     simp at hst
     simp [Builtin.append_,run_underlying ht,run_underlying hu,sizeOf,typeInfo,zeroValue,hi,hz,asInt,asIntOf,hw0,hroom',Addr.add_lit,hst]
    ·have hsz':i.size≠0:=by omega
     simp [Builtin.append_,run_underlying ht,run_underlying hu,sizeOf,typeInfo,zeroValue,hi,hz,asInt,asIntOf,hw,hneg,hbig,hm,hsz',hroom,hna,Addr.add_lit,hst]
     exact fun h=>absurd h (by have:=Nat.mul_pos (show 0<m by omega) hsz;omega)
   ·simp only [List.size_toArray,List.length_append,List.length_take,List.length_drop,Array.length_toList]
    omega
   ·rw [htake,<- hlen]
    exact List.take_left
  ·have holds:∀ j u,xs[j]? =some u->w.cell? ((⟨g,0,none⟩:Addr).add j)=some u:=hown.cells (g:=g) rfl
   have hfo:=run_firstCells_some (P:=P) w.drew i.size n ⟨g,0,none⟩ n cap xs hown.1 (by simpa using holds)
   have h48': ¬ (281474976710656<Builtin.nextslicecap (n+m) cap*i.bytes):=by have:=growslice_fits (show cap<n+m by omega) hbytes;omega
   have h63': ¬ (9223372036854775807<((n:Int)+(m:Int))):=by omega
   have hgr:=grown cap (by omega) (Value.ownBlock (.slice (some ⟨g,0,none⟩) n cap))
   refine ⟨_,_,?_,hgr.1,hgr.2,Or.inr rfl⟩
   have hm:m≠0:=by omega
   have hsz':i.size≠0:=by omega
   simp [Builtin.append_,run_underlying ht,run_underlying hu,sizeOf,typeInfo,zeroValue,hi,hz,asInt,asIntOf,hw,hneg,hbig,hm,hsz',hroom,h63',h48',Question.forced,hfo,newRow,grownCap,hna]
   have hne: ¬ (m*i.size=0):=by have:=Nat.mul_pos (show 0<m by omega) hsz;omega
   rw [if_neg hne]
   congr 3
   apply Array.ext'
   simp [List.append_assoc]
end
section
variable {P:Program} {o:Oper} {n:Nat} {L:List (Nat×Value)} {w w0:World} {x y:Operand} {T T' e:TypeId} {Wr Wf M M0:Nat->Prop} {α:Type} {a:Kd α} {k kk:IntKind}
theorem zero_one {z:Value} {x0:α} (h:∀ M w,a.R M w x0 z.cells.toList) (w:World):∀ u ∈ z.cells.toList,u.oneCell'=true:=a.one (h (fun _=>False) w)
theorem o_appZ {c:Call} {v z0:Value} {xs:List α} {bytes:Nat} {m:Int} {x0:α} (ho:o.op= .call c) (hc:c.callee= .builtin .append) (has:c.args= #[x,y]) (hat:c.argTypes= #[T,T']) (hu:P.underlying T=some (.slice e)) (hu':P.underlying T'=some (.int kk)) (hi:(P.info? e).map (fun i=>(i.zero,i.size,i.bytes))=some (some z0,a.sz,bytes)) (hz:z0.cells.size=a.sz) (hsz:0<a.sz)
  (hx:ev L x=some v) (hO:Own Wf M w a e v xs) (hW:∀ b,Wf b->Wr b) (hF:∀ b,w0.heap.size<=b->Wf b) (hy:ev L y=some (.int k m)) (h0:∀ M w,a.R M w x0 z0.cells.toList) (hm0:0<=m) (hbytes:((xs.length:Int)+m)*bytes<=140737488355328) (hb0:0<bytes) (hS:St Wr w0 M0 w M) :
  OpC P o n L w (fun v' w'=>∃ M',Own Wf M' w' a e v' (xs ++ List.replicate m.toNat x0)/\St Wr w0 M0 w' M'/\Step M w M' w'/\w.grownBy w' v.ownBlock/\(∀ b,M b->M' b)/\(v'.ownBlock=v.ownBlock\/∃ g,v'.ownBlock=some g/\w.heap.size<=g)):=fun act ha K Q hK=>by
 obtain ⟨inf,hinf,hzz⟩:=Option.map_eq_some_iff.1 hi
 simp only [Prod.mk.injEq] at hzz
 obtain ⟨hz0,hz1,hz2⟩:=hzz
 obtain ⟨q,rfl⟩:=Int.eq_ofNat_of_zero_le hm0
 obtain ⟨hlo,os,h1,h2,h3⟩:=hO
 have hb2:(xs.length+q)*bytes<=140737488355328:=by rw [<- Int.natCast_add,<- Int.natCast_mul] at hbytes;omega
 have hlen:xs.length+q<=140737488355328:=Nat.le_trans (Nat.le_mul_of_pos_right _ hb0) hb2
 have hqb:q*bytes<=140737488355328:=Nat.le_trans (Nat.mul_le_mul_right _ (Nat.le_add_left q xs.length)) hb2
 obtain ⟨v',w',hr,hown,hg,hat'⟩:=run_append_zeros (P:=P) (w:=w) 0 T T' o.type e inf z0 a.sz bytes hu hu' hinf hz0 hz1 hz2 hz hsz v xs.length os h1 (k:=k) q (zero_one h0 w) (by simp only [maxLen];omega) hb2 (Nat.zero_le _) (by omega) hqb
 have hzc:(Builtin.zeroCells z0.cells q).toList=(List.replicate q z0.cells.toList).flatten:=by
  have:=zeros_cells z0 q a.sz hz
  rw [<- this]
  unfold Builtin.zeroCells madeCells
  rw [hz]
 rw [hzc] at hown
 have hop:(execOp act.eval o).run P w= .ok (.value v') w':=by
  simp only [execOp,ho,resolve,hc,has,hat,invoke,builtin,Sem.run_bind,Sem.run_pure,Result.andThen_ok,List.map_toArray,List.map_cons,List.map_nil,ha.ev hx,ha.ev hy,hr]
 unfold Oper.wp
 rw [hop]
 let M':Nat->Prop:=fun b=>M b\/v'.ownBlock=some b
 have hst:Step M w M' w':=⟨hg.size,fun b hb hn=>hg.block b hb (fun e=>hn (h3 b e.symm).1),fun b hb=>hb.elim .inl (fun h=>by
  rcases hat' with h' | h'
  ·exact .inl (h3 b (h'.symm.trans h)).1
  ·rw [h'] at h;injection h with h;exact .inr (by omega))⟩
 rw [Int.toNat_natCast] at hK
 refine hK _ _ ⟨M',⟨by simp;omega,os ++ (List.replicate q z0.cells.toList).flatten,by rw [List.length_append,List.length_replicate];exact hown,(h2.to hst).app (Cs.zeros (h0 _ _) q),fun g hg'=>⟨.inr hg',?_⟩⟩,⟨hS.eff.grown hg (fun b hb=>hW b (h3 b hb).2),hS.step.trans hst,fun b h=>.inl (hS.inc b h),fun b h=>?_⟩,hst,hg,fun b h=>.inl h,?_⟩
 ·rcases hat' with h' | h'
  ·exact (h3 g (h'.symm.trans hg')).2
  ·rw [h'] at hg';injection hg' with hg';rw [<- hg'];exact hF _ hS.eff.size
 ·rcases h with h | h
  ·exact Nat.lt_of_lt_of_le (hS.lt b h) hg.size
  ·exact own_lt hown b h
 ·rcases hat' with h' | h'
  ·exact .inl h'
  ·exact .inr ⟨_,h',Nat.le_refl _⟩
end
end Go.Proofs.Ytlmpoindlejefaa.E
