/- Joined. -/
import Derived.Test.YtlmpoindlejefaaQE10
import Derived.Maps.Keyed
import Derived.Carry
set_option linter.unusedVariables false
namespace Go.Proofs.Ytlmpoindlejefaa.E
open Go Go.RowKit
def mfind:List MapEntry->Int->Nat->Option (Nat×Value)
 | [],_,_=>none
 | e ::es,k,i=>match e.key with
  | .int _ k'=>if k=k' then some (i,e.val) else mfind es k (i+1)
  | _=>mfind es k (i+1)
def intKeys (es:List MapEntry):Prop:=∀ e ∈ es,∃ k,e.key= .int .i64 k
def mread (es:List MapEntry) (k:Int):Value:=match mfind es k 0 with
 | some (_,v)=>v
 | none=>.bool false
theorem zGV:∀ (es:List MapEntry) (k:Int) (i:Nat),intKeys es->Instr.findNow (.int .i64) (.int .i64 k) es i=some (mfind es k i)
 | [],_,_,_=>rfl
 | e ::es,k,i,h=>by
  obtain ⟨k',hk⟩:=h e (by simp)
  have ih:=zGV es k (i+1) fun e he=>h e (by simp [he])
  unfold Instr.findNow mfind
  rw [hk]
  simp only [Instr.sameNow]
  by_cases c:k=k'
  ·simp [c]
  ·rw [show (k == k')=false from by simpa using c,if_neg c];exact ih
theorem zEK:∀ (es:List MapEntry) (k:Int) (i:Nat),mfind es k (i+1)=(mfind es k i).map fun p=>(p.1+1,p.2)
 | [],_,_=>rfl
 | e ::es,k,i=>by
  unfold mfind
  split
  ·split
   ·rfl
   ·exact zEK es k (i+1)
  ·exact zEK es k (i+1)
theorem zIH:∀ (es:List MapEntry) (k:Int) (j:Nat) (v:Value),intKeys es->mfind es k 0=some (j,v)->∃ e,es[j]? =some e/\e.key= .int .i64 k
 | [],_,_,_,_,h=>by simp [mfind] at h
 | e ::es,k,j,v,hk,h=>by
  obtain ⟨k',he⟩:=hk e (by simp)
  unfold mfind at h
  rw [he] at h
  simp only at h
  by_cases c:k=k'
  ·rw [if_pos c] at h
   obtain ⟨rfl,rfl⟩:=by simpa using h
   exact ⟨e,rfl,by rw [he,c]⟩
  ·rw [if_neg c,zEK] at h
   obtain ⟨⟨j',v'⟩,h1,h2⟩:=Option.map_eq_some_iff.1 h
   obtain ⟨rfl,rfl⟩:=by simpa using h2
   obtain ⟨e',h3,h4⟩:=zIH es k j' v' (fun e he=>hk e (by simp [he])) h1
   exact ⟨e',by simpa using h3,h4⟩
theorem zIX (es:List MapEntry) (k:Int) (v:Value) (c:Nat) (hn:mfind es k 0=none) (k':Int):mread (es ++ [⟨.int .i64 k,v,c⟩]) k'=if k'=k then v else mread es k':=by
 have go:∀ (es:List MapEntry) (i:Nat),mfind es k i=none->mfind (es ++ [⟨.int .i64 k,v,c⟩]) k' i=if k'=k then (some (i+es.length,v)) else mfind es k' i:=by
  intro es
  induction es with
  | nil=>intro i _;simp [mfind]
  | cons e es ih=>
   intro i h
   unfold mfind at h |-
   simp only [List.cons_append,List.length_cons]
   cases he:e.key <;> rw [he] at h <;> simp only at h |-
   case int kk k2=>
    by_cases c1:k=k2
    ·rw [if_pos c1] at h;cases h
    ·rw [if_neg c1] at h
     have:=ih (i+1) h
     by_cases c2:k'=k
     ·rw [if_neg (by rw [c2];exact c1),this,if_pos c2,if_pos c2];congr 2;omega
     ·rw [this,if_neg c2,if_neg c2]
   all_goals
    have:=ih (i+1) h
    rw [this]
    by_cases c2:k'=k
    ·rw [if_pos c2,if_pos c2];congr 2;omega
    ·rw [if_neg c2,if_neg c2]
 unfold mread
 rw [go es 0 hn]
 by_cases c2:k'=k
 ·simp [c2]
 ·simp [c2]
theorem zIi:∀ (es:List MapEntry) (k:Int) (j:Nat) (v0 v:Value) (e e2:MapEntry),intKeys es->mfind es k 0=some (j,v0)->es[j]? =some e->e2.key= .int .i64 k->e2.val=v->∀ k',mread (es.set j e2) k'=if k'=k then v else mread es k':=by
 intro es k j v0 v e e2 hk hf he h1 h2 k'
 have go:∀ (es:List MapEntry) (j i:Nat) (v0:Value) (e:MapEntry),intKeys es->mfind es k 0=some (j,v0)->es[j]? =some e->mfind (es.set j e2) k' i=if k'=k then some (i+j,v) else mfind es k' i:=by
  intro es
  induction es with
  | nil=>intro j i v0 e _ h;simp [mfind] at h
  | cons x es ih=>
   intro j i v0 e hk h he
   obtain ⟨kx,hx⟩:=hk x (by simp)
   unfold mfind at h
   rw [hx] at h
   simp only at h
   by_cases c:k=kx
   ·rw [if_pos c] at h
    obtain ⟨rfl,rfl⟩:=by simpa using h
    simp only [List.set_cons_zero]
    unfold mfind
    rw [h1,hx,h2]
    simp only
    by_cases c2:k'=k
    ·rw [if_pos c2,if_pos c2];rfl
    ·rw [if_neg c2,if_neg c2,if_neg (by rw [<- c];exact c2)]
   ·rw [if_neg c,zEK] at h
    obtain ⟨⟨j',v'⟩,h3,h4⟩:=Option.map_eq_some_iff.1 h
    obtain ⟨rfl,rfl⟩:=by simpa using h4
    simp only [List.set_cons_succ]
    unfold mfind
    rw [hx]
    simp only
    rw [ih j' (i+1) v' e (fun e he=>hk e (by simp [he])) h3 (by simpa using he)]
    by_cases c2:k'=k
    ·rw [if_neg (by rw [c2];exact c),if_pos c2,if_pos c2];congr 2;omega
    ·rw [if_neg c2,if_neg c2]
 unfold mread
 rw [go es j 0 v0 e hk hf he]
 by_cases c2:k'=k
 ·simp [c2]
 ·simp [c2]
def mset (f:Int->Bool) (k:Int) (v:Bool):Int->Bool:=fun i=>if i=k then v else f i
structure Mp (Wr M:Nat->Prop) (w:World) (b:Nat) (f:Int->Bool):Prop where
 m:M b
 wr:Wr b
 row:∃ es clock,w.heap[b]? =some (.map es clock)/\intKeys es.toList/\∀ k,mread es.toList k= .bool (f k)
section
variable {Wr Wr' Wf M M' M0 C:Nat->Prop} {w w' w0:World} {b:Nat} {f:Int->Bool}
theorem Mp.lt (h:Mp Wr M w b f):b<w.heap.size:=by obtain ⟨es,c,h,_⟩:=h.row;exact (Array.getElem?_eq_some_iff.1 h).1
theorem Mp.ltB (h:Mp Wr M w b f):∀ x,Bb b x->x<w.heap.size:=fun x hx=>by rw [show x=b from hx];exact h.lt
theorem Mp.keptC (h:Mp Wr M w b f) (hc:Chg w w' C) (hd:Dis (Bb b) C) (hi:∀ b,M b->M' b):Mp Wr M' w' b f:=by
 obtain ⟨es,c,h1,h2⟩:=h.row
 exact ⟨hi b h.m,h.wr,es,c,(hc.block b h.lt (hd b rfl)).trans h1,h2⟩
variable {P:Program} {o:Oper} {n:Nat} {L:List (Nat×Value)} {T kt vt:TypeId} {x y z:Operand} {k:Int} {v:Bool}
theorem o_mkm (ho:o.op= .makeMap T none) (hS:St Wr w0 M0 w M) (hW:∀ b,Wf b->Wr b) (hF:∀ b,w0.heap.size<=b->Wf b):OpC P o n L w (fun v w'=>∃ b M',v= .map (some b)/\Mp Wf M' w' b (fun _=>false)/\St Wr w0 M0 w' M'/\Step M w M' w'/\Below w.heap.size w w'/\(∀ c,M c->M' c)/\w.heap.size<=b):=fun a ha K Q hK=>by
 have hr:(execOp a.eval o).run P w= .ok (.value (.map (some w.heap.size))) (w.alloc (.map #[] 0)):=by
  simp [execOp,ho,Instr.makeMap]
 unfold Oper.wp
 rw [hr]
 have hb:=zCJ w (.map #[] 0)
 have hst:Step M w (ins M w.heap.size) (w.alloc (.map #[] 0)):=⟨hb.size,fun b h _=>hb.block b h,fun b h=>h.elim (fun e=>.inr (by omega)) .inl⟩
 refine hK _ _ ⟨_,ins M w.heap.size,rfl,⟨.inl rfl,hF _ hS.eff.size,#[],0,heap_alloc_new w _,fun e he=>by simp at he,fun k=>rfl⟩,⟨hS.eff.below hb,hS.step.trans hst,fun b h=>.inr (hS.inc b h),fun b h=>?_⟩,hst,hb,fun c h=>.inr h,Nat.le_refl _⟩
 rcases h with rfl | h
 ·simp
 ·have:=hS.lt b h
  simp
  omega
theorem o_mlk (hu:P.underlying T=some (.map kt vt)) (hk:P.underlying kt=some (.int .i64)) (hz:(P.info? vt).bind (·.zero)=some (.bool false)) (hm:Mp Wr M w b f) (ho:o.op= .lookup T x y false:=by rfl) (hx:ev L x=some (.map (some b)):=by rfl) (hy:ev L y=some (.int .i64 k):=by rfl):OpV P o n L w (.bool (f k)):=fun a ha=>by
 obtain ⟨es,c,h1,h2,h3⟩:=hm.row
 have hf:=MapKept.run_findKey (w:=w) hk (zGV es.toList k 0 h2)
 have hc:=MapKept.run_checkKey (w:=w) (k:=.int .i64 k) hk (by simp [MapKept.IsKey]) es.isEmpty 9999
 obtain ⟨inf,hi,hz⟩:=Option.bind_eq_some_iff.1 hz
 have h4:=h3 k
 unfold mread at h4
 cases hq:mfind es.toList k 0 with
 | none=>
  rw [hq] at h4 hf
  simp only at h4
  simp [execOp,ho,ha.ev hx,ha.ev hy,Instr.lookup,run_underlying hu,MapKept.run_getObj_map h1,hc,hf,Result.andThen,zeroValue,typeInfo,hi,hz,<- h4]
 | some p=>
  rw [hq] at h4 hf
  simp only at h4
  simp [execOp,ho,ha.ev hx,ha.ev hy,Instr.lookup,run_underlying hu,MapKept.run_getObj_map h1,hc,hf,Result.andThen,<- h4]
theorem o_mup (hu:P.underlying T=some (.map kt vt)) (hk:P.underlying kt=some (.int .i64)) (hm:Mp Wf M w b f) (hW:∀ b,Wf b->Wr b) (hS:St Wr w0 M0 w M) (ho:o.op= .mapUpdate T x y z:=by rfl) (hx:ev L x=some (.map (some b)):=by rfl) (hy:ev L y=some (.int .i64 k):=by rfl) (hv:ev L z=some (.bool v):=by rfl) :
  OpC P o n L w (fun _ w'=>Mp Wf M w' b (mset f k v)/\St Wr w0 M0 w' M/\Step M w M w'/\w.grownBy w' (some b)):=fun a ha K Q hK=>by
 obtain ⟨es,c,h1,h2,h3⟩:=hm.row
 have hf:=MapKept.run_findKey (w:=w) hk (zGV es.toList k 0 h2)
 have hc:=MapKept.run_checkKey (w:=w) (k:=.int .i64 k) hk (by simp [MapKept.IsKey]) false 9999
 have fin:∀ es' c',(execOp a.eval o).run P w= .ok .skip (ChangeMaps.setBlock w b (.map es' c'))->intKeys es'.toList->(∀ k',mread es'.toList k'=if k'=k then .bool v else mread es.toList k')->o.wp P a w K Q:=by
  intro es' c' hr hi hv
  unfold Oper.wp
  rw [hr,Oper.upon_skip]
  have hg:w.grownBy (ChangeMaps.setBlock w b (.map es' c')) (some b):=⟨rfl,rfl,rfl,by simp [ChangeMaps.setBlock],fun i _ hi=>ChangeMaps.heap_setBlock_other h1 _ (fun e=>hi (by rw [e]))⟩
  have hst:Step M w M (ChangeMaps.setBlock w b (.map es' c')):=⟨hg.size,fun c hc hn=>hg.block c hc (fun e=>hn (by injection e with e;rw [e];exact hm.m)),fun _ h=>.inl h⟩
  refine hK _ _ ⟨⟨hm.m,hm.wr,es',c',ChangeMaps.heap_setBlock_same h1 _,hi,fun k'=>?_⟩,⟨hS.eff.grown hg (fun c e=>by injection e with e;rw [<- e];exact hW _ hm.wr),hS.step.trans hst,hS.inc,fun c hc=>Nat.lt_of_lt_of_le (hS.lt c hc) hg.size⟩,hst,hg⟩
  rw [hv,h3]
  unfold mset
  by_cases e:k'=k <;> simp [e]
 cases hq:mfind es.toList k 0 with
 | none=>
  rw [hq] at hf
  refine fin (es.push ⟨.int .i64 k,.bool v,c⟩) (c+1) ?_ ?_ ?_
  ·simp [execOp,ho,ha.ev hx,ha.ev hy,ha.ev hv,Instr.mapUpdate,run_underlying hu,MapKept.run_getObj_map h1,hc,hf,MapKept.run_setObj_map _ h1,Result.andThen,ChangeMaps.setBlock]
  ·intro e he
   simp only [Array.toList_push,List.mem_append,List.mem_singleton] at he
   rcases he with he | rfl
   ·exact h2 e he
   ·exact ⟨k,rfl⟩
  ·intro k'
   rw [Array.toList_push]
   exact zIX _ _ _ _ hq k'
 | some p=>
  obtain ⟨j,v0⟩:=p
  rw [hq] at hf
  obtain ⟨e,he,hke⟩:=zIH _ _ _ _ h2 hq
  have hj:es[j]? =some e:=by simpa using he
  have hlist:(es.modify j (fun e'=>{ e' with key:=.int .i64 k,val:=.bool v })).toList=es.toList.set j { e with key:=.int .i64 k,val:=.bool v }:=by rw [Array.toList_modify,ChangeMaps.modify_eq_set _ _ _ _ he]
  refine fin (es.modify j (fun e'=>{ e' with key:=.int .i64 k,val:=.bool v })) c ?_ ?_ ?_
  ·simp [execOp,ho,ha.ev hx,ha.ev hy,ha.ev hv,Instr.mapUpdate,run_underlying hu,MapKept.run_getObj_map h1,hc,hf,hj,hke,Instr.keyThatStays,Instr.sameBits,MapKept.run_setObj_map _ h1,Result.andThen,ChangeMaps.setBlock]
  ·rw [hlist]
   intro x hx
   rcases List.mem_or_eq_of_mem_set hx with hx | rfl
   ·exact h2 x hx
   ·exact ⟨k,rfl⟩
  ·rw [hlist]
   exact zIi _ _ _ _ _ e _ h2 hq he rfl rfl
end
end Go.Proofs.Ytlmpoindlejefaa.E
namespace Go.Proofs.Ytlmpoindlejefaa.E
open Go Go.RowKit
abbrev I6 (n:Int):Value:=.int .i64 n
theorem dT {p:Prop} [Decidable p] (h:p):decide p=true:=decide_eq_true h
theorem dF {p:Prop} [Decidable p] (h: ¬ p):decide p=false:=decide_eq_false h
theorem nB {a b:Nat} (h:Nat.ble a b=true):a<=b:=Nat.le_of_ble_eq_true h
theorem wB {α β:Type} {m:W α} {f:α->W β} {p:β->Prop} (h:(W.bind m f).run p):m.run fun a=>(f a).run p:=h
theorem wR {α:Type} {c:Prop} {m:W α} {p:α->Prop} (h:(W.req c m).run p):c/\m.run p:=h
theorem fA {n:Nat} {X:Nat->Prop} :∀ b,b<n->n<=b->X b:=fun _ hb h=>absl hb h
theorem fJ {p:Prop} (h:p):p:=h
theorem aR {w:World} {b:Nat} {cs:Array Value} {t:TypeId} {fr:Nat×Nat} (h:w.heap[b]? =some (.cells cs t fr)):At w b 0 cs.toList:=At.of_row h
theorem dS {A B:Nat->Prop} (h:Dis A B):Dis B A:=h.symm
theorem bq {α:Type} {c:Prop} {i:Decidable c} {a b:W α} {p:α->Prop} (H:(@ite _ c i a b).run p):c/\a.run p\/¬ c/\b.run p:=by
 by_cases h:c
 ·exact .inl ⟨h,by rwa [if_pos h] at H⟩
 ·exact .inr ⟨h,by rwa [if_neg h] at H⟩
theorem sa {k:IntKind} {x:Int} (h:InK k x:=by first | omega | (dsimp only;omega) | simp [InK]):InK k x:=h
theorem Step.t {M M' M'':Nat->Prop} {w w' w'':World} (h:Step M w M' w') (k:Step M' w' M'' w''):Step M w M'' w'':=Step.trans h k
theorem sB {Wr M0 M:Nat->Prop} {w0 w w':World} (h:St Wr w0 M0 w M) (k:Below w.heap.size w w'):St Wr w0 M0 w' M/\Step M w M w':=⟨h.below k,Step.below k⟩
section
variable {P:Program} {L:List (Nat×Value)} {w:World} {x:Tmp} {v:Value}
theorem rv (h:lk L x=some v):RV P L w (.tmp x) v:=RV.tmp h
end
end Go.Proofs.Ytlmpoindlejefaa.E
namespace Go.Proofs.Ytlmpoindlejefaa.E
open Go Go.RowKit
abbrev sn:Value:=.slice none 0 0
abbrev pq (b:Nat):Value:=.pointer (some ⟨b,0,none⟩)
theorem ixb {a b:Prop} (h:a) (e:a->b:=by first | exact fun h=>h | (intro h;(try simp only [List.length_set] at h |-);first | exact h | omega)):b:=e h
section
variable {P:Program} {ops:Array Oper} {Q:Exit->Act->World->Prop} {rest:List Oper} {n:Nat} {L:List (Nat×Value)} {w w0:World} {o o1 o2 o3:Oper} {d:Nat} {v u:Value} {x y z:Operand} {T T' e:TypeId} {k:IntKind} {t:TypeDesc} {Wf Wr M M0:Nat->Prop} {b:Nat} {cs:Array Value}
theorem xm (ho:o.op= .move x:=by rfl) (hx:ev L x=some v:=by rfl) (hw:wantB ops L o=some true:=by rfl) (hd:o.dst=some d:=by rfl) (hn:Nat.blt d n=true:=by rfl) (k:WL P ops Q rest n ((d,v) ::L) w):WL P ops Q (o ::rest) n L w:=va (o_mv ho hx) k hw hd hn
theorem xs (ho:o.op= .assign x:=by rfl) (hx:ev L x=some v:=by rfl) (hw:wantB ops L o=some true:=by rfl) (hd:o.dst=some d:=by rfl) (hn:Nat.blt d n=true:=by rfl) (k:WL P ops Q rest n ((d,v) ::L) w):WL P ops Q (o ::rest) n L w:=va (o_as ho hx) k hw hd hn
theorem xe {vs:Array Value} {i:Nat} (ho:o.op= .extract x i:=by rfl) (hx:ev L x=some (.tuple vs):=by rfl) (hv:vs[i]? =some v:=by rfl) (hw:wantB ops L o=some true:=by rfl) (hd:o.dst=some d:=by rfl) (hn:Nat.blt d n=true:=by rfl) (k:WL P ops Q rest n ((d,v) ::L) w):WL P ops Q (o ::rest) n L w:=va (o_ex ho hx hv) k hw hd hn
theorem xf (ho:o.op= .pick x y z:=by rfl) (hx:ev L x=some (.bool false):=by rfl) (hy:ev L z=some v:=by rfl) (hw:wantB ops L o=some true:=by rfl) (hd:o.dst=some d:=by rfl) (hn:Nat.blt d n=true:=by rfl) (k:WL P ops Q rest n ((d,v) ::L) w):WL P ops Q (o ::rest) n L w:=va (o_pkf ho hx hy) k hw hd hn
theorem xw (h1:wantB ops L o1=some false:=by rfl) (n1:fits o1.dst n=true:=by rfl) (h2:wantB ops (putL o1.dst undef L) o2=some false:=by rfl) (n2:fits o2.dst n=true:=by rfl) (h3:wantB ops (putL o2.dst undef (putL o1.dst undef L)) o3=some false:=by rfl) (n3:fits o3.dst n=true:=by rfl) (k:WL P ops Q rest n (putL o3.dst undef (putL o2.dst undef (putL o1.dst undef L))) w):WL P ops Q (o1 ::o2 ::o3 ::rest) n L w:=xo h1 n1 (xo h2 n2 (xo h3 n3 k))
theorem la {b off:Nat} (hu:P.underlying T=some t) (hc:w.cell? ⟨b,off,none⟩ =some v) (ho:o.op= .load T x:=by rfl) (hd:isAgg t=false:=by rfl) (hx:ev L x=some (.pointer (some ⟨b,off,none⟩)):=by rfl):OpV P o n L w v:=o_ld1 ho hu hd hx hc
theorem ln {b off:Nat} {cs:List Value} (hu:P.underlying T=some t) (hs:(P.info? T).map (·.size)=some cs.length) (hc:At w b off cs) (ho:o.op= .load T x:=by rfl) (hd:isAgg t=true:=by rfl) (hx:ev L x=some (.pointer (some ⟨b,off,none⟩)):=by rfl):OpV P o n L w (.agg cs.toArray):=o_ldn ho hu hd hs hx hc
theorem fa_ {i b off s:Nat} {fs:Array Field} {f:Field} (hu:P.underlying T=some (.struct fs)) (hs:(P.info? T').map (·.size)=some (s+1)) (ho:o.op= .fieldAddr T x i:=by rfl) (hf:fs[i]? =some f:=by rfl) (hx:ev L x=some (.pointer (some ⟨b,off,none⟩)):=by rfl) (ht:f.type=T':=by rfl):OpV P o n L w (.pointer (some ⟨b,off+f.offset,none⟩)):=o_fa ho hu hf (ht ▸ hs) hx
theorem iA {b off m c s:Nat} {A:Option Addr} {i:Int} (hu:P.underlying T=some (.slice e)) (hs:(P.info? e).map (·.size)=some s) (hA:A=some ⟨b,off,none⟩) (h:0<=i/\i<m) (ho:o.op= .indexAddr T x y:=by rfl) (hx:ev L x=some (.slice A m c):=by rfl) (hy:ev L y=some (.int k i):=by rfl):OpV P o n L w (.pointer (some ⟨b,off+i.toNat*s,none⟩)):=o_iaA ho hu hs hx hA hy h.1 h.2
theorem iV {b off m c s:Nat} {i:Int} (hu:P.underlying T=some (.slice e)) (hs:(P.info? e).map (·.size)=some s) (hv:v= .slice (some ⟨b,off,none⟩) m c) (h:0<=i/\i<m) (ho:o.op= .indexAddr T x y:=by rfl) (hx:ev L x=some v:=by rfl) (hy:ev L y=some (.int k i):=by rfl):OpV P o n L w (.pointer (some ⟨b,off+i.toNat*s,none⟩)):=o_iaV ho hu hs hx hv hy h.1 h.2
theorem stp {off:Nat} (ho:o.op= .store T x y) (hx:ev L x=some (.pointer (some ⟨b,off,none⟩))) (hy:ev L y=some u) (hs:(P.info? T).map (·.size)=some u.cells.size) {T':TypeId} (h1:∀ z ∈ u.cells.toList,z.oneCell'=true) (hb:Mb Wf M w b T' cs) (hW:∀ b,Wf b->Wr b) (hS:St Wr w0 M0 w M) (hl:off+u.cells.size<=cs.size:=by exact nB rfl):OpC P o n L w (fun _ w'=>Mb Wf M w' b T' (cs.toList.take off ++ u.cells.toList ++ cs.toList.drop (off+u.cells.toList.length)).toArray/\St Wr w0 M0 w' M/\Step M w M w'/\w.grownBy w' (some b)):=zIe ho hx hy hs hl h1 hb hW hS
end
end Go.Proofs.Ytlmpoindlejefaa.E
namespace Go.Proofs.Ytlmpoindlejefaa.E
open Go Go.RowKit
section
variable {P:Program} {o:Oper} {n:Nat} {L:List (Nat×Value)} {w:World} {x y:Operand} {T e:TypeId} {k k':IntKind} {Wr M:Nat->Prop} {α:Type} {a:Kd α}
theorem a_make {z0:Value} {bytes s:Nat} {i:Int} (ho:o.op= .makeSlice T x y) (hu:P.underlying T=some (.slice e)) (hi:(P.info? e).map (fun i=>(i.zero,i.size,i.bytes))=some (some z0,s,bytes)) (hx:ev L x=some (.int k i)) (hy:ev L y=some (.int k' i)) (h0:0<=i) (hb:i*bytes<=281474976710656) (hb0:0<bytes) :
  OpA P o n L (.cells (madeCells z0.cells (i.toNat*s)) e) (fun b=>.slice (some ⟨b,0,none⟩) i.toNat i.toNat):=fun act w ha=>by
 obtain ⟨c,rfl⟩:=Int.eq_ofNat_of_zero_le h0
 obtain ⟨inf,hinf,hzz⟩:=Option.map_eq_some_iff.1 hi
 simp only [Prod.mk.injEq] at hzz
 obtain ⟨hz0,hz1,hz2⟩:=hzz
 have hb':c*bytes<=281474976710656:=by
  have:((c*bytes:Nat):Int)<=281474976710656:=by rw [Int.natCast_mul];exact hb
  omega
 have hc63:c<=281474976710656:=Nat.le_trans (Nat.le_mul_of_pos_right _ hb0) hb'
 have hbi:(inf.bytes:Int)*(c:Int)<=281474976710656:=by
  rw [hz2,Int.mul_comm,<- Int.natCast_mul]
  omega
 have hr:=run_make (P:=P) w T e inf z0 hu hinf hz0 k k' (c:Int) (c:Int) (by omega) (by omega) hbi (by omega)
 rw [hz1] at hr
 simp only [Int.toNat_natCast] at hr |-
 simp only [execOp,ho,ha.ev hx,ha.ev hy,Sem.run_bind,hr,Result.andThen_ok]
 rfl
theorem Own.late {z0:Value} {x0:α} {b m:Nat} (hr:w.heap[b]? =some (.cells (madeCells z0.cells (m*a.sz)) e (0,0))) (hM:M b) (hW:Wr b) (hz:z0.cells.size=a.sz) (hm:m<=281474976710656) (h0:∀ M w,a.R M w x0 z0.cells.toList):Own Wr M w a e (.slice (some ⟨b,0,none⟩) m m) (List.replicate m x0):=by
 refine ⟨by simpa using hm,(List.replicate m z0.cells.toList).flatten,⟨?_,.inr ⟨b,m,madeCells z0.cells (m*a.sz),?_,Nat.zero_le _,hr,?_,?_,?_,?_⟩⟩,Cs.zeros (h0 _ _) m,fun g hg=>?_⟩
 ·simp [List.length_flatten,hz]
 ·simp
 ·simp
 ·simp only [maxLen];omega
 ·simp [size_madeCells]
 ·rw [zGC z0 m a.sz hz]
  exact List.take_of_length_le (by simp [List.length_flatten,hz])
 ·have:b=g:=by simpa [Value.ownBlock] using hg
  subst this
  exact ⟨hM,hW⟩
theorem Own.vv {v v':Value} {xs:List α} (hv:v=v') (h:Own Wr M w a e v xs):Own Wr M w a e v' xs:=hv ▸ h
theorem B1.sg {b m c:Nat} :∀ x,B1 (.slice (some ⟨b,0,none⟩) m c) x->x=b:=fun x h=>by
 have:b=x:=by simpa [B1,Value.ownBlock] using h
 exact this.symm
theorem B1.sgv {b m c:Nat} {v:Value} (hv: .slice (some ⟨b,0,none⟩) m c=v):∀ x,B1 v x->x=b:=by subst hv;exact B1.sg
end
section
variable {Wr M M1:Nat->Prop} {w w1 w2:World} {α:Type} {a:Kd α} {e1 e2:TypeId} {v u:Value} {us:List Value} {xss:List (List α)} {i:Int}
theorem Own2.outA (h:Own2 Wr M w a e1 e2 v us xss) (h0:0<=i) (h1:i<xss.length) (hg:w.grownBy w1 (gv us i).ownBlock) (hs:Step M w M1 w1) (hi:∀ b,M b->M1 b):Own Wr M1 w1 Kd.val e1 v us:=h.out.keptC (Chg.b1 hg) (h.djo _ (zB9 (by rw [h.fam.len];omega) _)) hs hi
theorem B2.setA (h:Own2 Wr M w a e1 e2 v us xss) (h0:0<=i) (h1:i<xss.length) (hn:u.ownBlock=(gv us i).ownBlock\/∃ g,u.ownBlock=some g/\w.heap.size<=g):∀ b,B2 v (us.set i.toNat u) b->B2 v us b\/w.heap.size<=b:=fun b hb=>by
 rcases B2.set b hb with k | k
 ·exact .inl k
 ·rcases B1.app hn b k with k | k
  ·exact .inl (.inr ⟨_,zB9 (by rw [h.fam.len];omega) _,k⟩)
  ·exact .inr k
theorem Own2.setApp (h:Own2 Wr M w a e1 e2 v us xss) (h0:0<=i) (h1:i<xss.length) {ys:List α} (hA:Own Wr M1 w1 a e2 u ys) (hg:w.grownBy w1 (gv us i).ownBlock) (hs:Step M w M1 w1) (hm:∀ b,M b->M1 b) (hn:u.ownBlock=(gv us i).ownBlock\/∃ g,u.ownBlock=some g/\w.heap.size<=g)
  (ho:Own Wr M1 w2 Kd.val e1 v (us.set i.toNat u)) (hg2:w1.grownBy w2 v.ownBlock) (hs2:Step M1 w1 M1 w2):Own2 Wr M1 w2 a e1 e2 v (us.set i.toNat u) (xss.set i.toNat ys):=by
 have hi:i.toNat<xss.length:=by omega
 have hiu:i.toNat<us.length:=by rw [h.fam.len];exact hi
 have hdu:∀ j,j<us.length->j≠i.toNat->Dis (B1 u) (B1 (us.getD j (.slice none 0 0))):=fun j hj hne b hb hb'=>by
  rcases B1.app hn b hb with k | k
  ·exact h.fam.dj i.toNat j hiu hj (Ne.symm hne) b k hb'
  ·have:=(h.fam.row j (by rw [<- h.fam.len];exact hj)).ltB b hb';omega
 have hdv:Dis (B1 v) (B1 u):=fun b hb hb'=>by
  rcases B1.app hn b hb' with k | k
  ·exact h.djo _ (zB9 hiu _) b hb k
  ·have:=h.out.ltB b hb;omega
 refine ⟨ho,⟨by simp [h.fam.len],fun j hj=>?_,fun j k hj hk hne=>?_⟩,fun x hx=>?_⟩
 ·rw [List.length_set] at hj
  rw [zBX hi,zBX hiu]
  by_cases e:j=i.toNat
  ·rw [if_pos e,if_pos e];exact hA.keptC (Chg.b1 hg2) hdv.symm hs2 (fun _ h=>h)
  ·rw [if_neg e,if_neg e]
   exact ((h.fam.row j hj).keptC (Chg.b1 hg) (h.fam.dj j i.toNat (by rw [h.fam.len];exact hj) hiu e) hs hm).keptC (Chg.b1 hg2) (h.djo _ (zB9 (by rw [h.fam.len];exact hj) _)).symm hs2 (fun _ h=>h)
 ·rw [List.length_set] at hj hk
  rw [zBX hiu,zBX hiu]
  by_cases e:j=i.toNat
  ·rw [if_pos e,if_neg fun e'=>hne (e.trans e'.symm)];exact hdu k hk (fun e'=>hne (e.trans e'.symm))
  ·rw [if_neg e]
   by_cases e':k=i.toNat
   ·rw [if_pos e'];exact (hdu j hj e).symm
   ·rw [if_neg e'];exact h.fam.dj j k hj hk hne
 ·rcases List.mem_or_eq_of_mem_set hx with hx | rfl
  ·exact h.djo x hx
  ·exact hdv
end
section
variable {P:Program} {ops:Array Oper} {Q:Exit->Act->World->Prop} {ds tail:List Nat} {E:List (Nat×Value)->World->Prop} {C:Nat->Prop} {w0 w:World} {n i:Nat} {r:List Stp} {pend:List Late} {had:Nat->Prop} {L:List (Nat×Value)} {M:Nat->Prop}
theorem DR.have1v {lt:Late} (k:Nat) (hk:pend[k]? =some lt) (he:lt.i=i)
  (h:∀ w1 M1 b v,lt.mkv b=v->Grow w M w1 M1->w1.heap[b]? =some lt.obj->w0.heap.size<=b->(lt.own=true->M1 b)->(lt.own=false->¬ M1 b)->¬ had b->DR P ops Q ds E C w0 n r (pend.filter fun p=>!(Nat.beq p.i i)) (hadB had b) ((lt.d,v) ::L) w1 M1):DR P ops Q ds E C w0 n (.have_ i ::r) pend had L w M:=
 DR.have1 k hk he fun w1 M1 b h1 h2 h3 h4 h5 h6=>h w1 M1 b _ rfl h1 h2 h3 h4 h5 h6
end
end Go.Proofs.Ytlmpoindlejefaa.E
namespace Go.Proofs.Ytlmpoindlejefaa.E
open Go Go.RowKit
section
variable {P:Program} {o:Oper} {n:Nat} {L:List (Nat×Value)} {w:World} {x y:Operand} {T e:TypeId} {k k' k'':IntKind} {Wr M N:Nat->Prop} {α:Type} {a:Kd α} {xs:List α}
end
section
variable {P:Program} {w:World}
end
section
variable {P:Program} {o:Oper} {n:Nat} {L:List (Nat×Value)} {w w0:World} {x y:Operand} {T T' e:TypeId} {Wr Wf M M0:Nat->Prop} {α:Type} {a:Kd α} {k kk:IntKind}
end
end Go.Proofs.Ytlmpoindlejefaa.E
namespace Go.Proofs.Ytlmpoindlejefaa.E
open Go Go.RowKit
theorem o_fn {P:Program} {o:Oper} {n:Nat} {L:List (Nat×Value)} {w:World} {f:FuncId} {fs cs:List Operand} {us vs:List Value} (ho:o.op= .makeFunc (.func f) fs.toArray cs.toArray) (h1:evs L fs=some us) (h2:evs L cs=some vs):OpV P o n L w (.func (.func f) us.toArray vs.toArray):=fun a ha=>by
 simp only [execOp,ho,Sem.run_bind,Instr.makeFunc,Sem.run_pure,Result.andThen_ok,List.map_toArray,Act.eval]
 rw [ha.evs h1,ha.evs h2]
theorem zIf {P:Program} {o:Oper} {n:Nat} {L:List (Nat×Value)} {w:World} {c:Call} {f:FuncId} {x:Operand} {xs:List Operand} {us vs cs ws:List Value} {post:Value->World->Prop} (ho:o.op= .call c) (hc:c.callee= .value x) (hx:ev L x=some (.func (.func f) us.toArray cs.toArray)) (has:c.args=xs.toArray) (hv:evs L xs=some vs) (hf:callable P f=true) (he:us ++ vs ++ cs=ws)
  (h:Calls P f ws.toArray w (fun e w'=>∃ v,e= .returned v/\post v w')):OpC P o n L w post:=fun a ha K Q hK=>by
 have hr:(execOp a.eval o).run P w= .ok (.enter f ws.toArray) w:=by
  simp only [execOp,ho,Sem.run_bind,resolve,hc,has,ha.ev hx,Deferred.ofValue,Sem.run_pure,Result.andThen_ok,invoke]
  have:(xs.toArray.map a.eval)=vs.toArray:=by rw [List.map_toArray,ha.evs hv]
  simp only [this]
  rw [show (us.toArray ++ vs.toArray ++ cs.toArray:Array Value)=ws.toArray by rw [<- he];simp]
  exact zFs hf _ _
 unfold Oper.wp
 rw [hr,Oper.upon_enter]
 refine Calls.mono h fun e w' he=>?_
 obtain ⟨v,rfl,hp⟩:=he
 exact hK v w' hp
theorem Mb.freeze {Wr M M0:Nat->Prop} {w w0:World} {b:Nat} {T:TypeId} {cs:Array Value} (hS:St Wr w0 M0 w M) (h:Mb (fun b=>w0.heap.size<=b) M w b T cs) (hM:∀ b,M0 b->b<w0.heap.size) :
  ∃ M',St Wr w0 M0 w M'/\Step M w M' w/\(∀ c,M c->¬ Bb b c->M' c)/\(∀ c,M' c->M c)/\Bx M' w b cs.toList:=by
 have hst:Step M w (fun c=>M c/\¬ Bb b c) w:=Step.weak fun b hb=>hb.1
 refine ⟨fun c=>M c/\¬ Bb b c,⟨hS.eff,hS.step.trans hst,fun c hc=>⟨hS.inc c hc,fun hg=>?_⟩,fun c hc=>hS.lt c hc.1⟩,hst,fun c h1 h2=>⟨h1,h2⟩,fun c hc=>hc.1,⟨fun hm=>hm.2 rfl,h.lt,At.of_row h.row⟩⟩
 have h1:=h.wr
 have h2:=hM c hc
 rw [show c=b from hg] at h2
 omega
end Go.Proofs.Ytlmpoindlejefaa.E
namespace Go.Proofs.Ytlmpoindlejefaa.E
open Go Go.RowKit Go.Proofs.YtlmpoindlejefaaW.PrintLast
inductive OT where
 | e
 | c (i:Nat) (s a:OT)
def OT.heads:OT->List Nat
 | .e=>[]
 | .c i _ a=>i ::a.heads
def OT.depth:OT->Nat
 | .e=>0
 | .c _ s a=>max (s.depth+1) a.depth
def chkTr (ops:Array Oper):Bool->Array Bool->OT->Bool
 | b,l,.e=>!b || Region.ready .any ops l == []
 | b,l,.c i s a=>(!b || Region.ready .any ops l == i ::a.heads) && chkTr ops true (l.setIfInBounds i true) s && chkTr ops false l a
section
variable {P:Program} {ops:Array Oper} {Q:Exit->Act->World->Prop} {n i d:Nat} {ds:List Nat} {w0:World} {C:Nat->Prop} {L:List (Nat×Value)} {w:World} {o:Oper} {v:Value} {u t:OT}
def TD (P:Program) (ops:Array Oper) (Q:Exit->Act->World->Prop) (ds:List Nat) (C:Nat->Prop) (w0:World) (n i:Nat) (K:List (Nat×Value)->World->Prop) (L:List (Nat×Value)) (w:World):Prop:=
 ∃ o,ops[i]? =some o/\fits o.dst n=true/\((wantB ops L o=some false/\K (putL o.dst undef L) w)\/(wantB ops L o=some true/\∃ post,OpC P o n L w post/\∀ v w',post v w'->(i ∉ ds->Chg w0 w C->Chg w0 w' C)/\K (putL o.dst v L) w'))
def TT (P:Program) (ops:Array Oper) (Q:Exit->Act->World->Prop) (ds:List Nat) (C:Nat->Prop) (w0:World) (n:Nat):Bool->OT->List (Nat×Value)->World->Prop
 | b,.e,L,w=>b=true->∀ a,Fr n L a->Q .normal a w
 | _,.c i s a,L,w=>TD P ops Q ds C w0 n i (TT P ops Q ds C w0 n true s) L w/\TT P ops Q ds C w0 n false a L w
theorem TT.sound (hq:PanicQ Q):∀ (t:OT) (b:Bool) (l:Array Bool) (L:List (Nat×Value)) (w:World) (a:Act) (f:Nat),chkTr ops b l t=true->TT P ops Q ds C w0 n b t L w->Fr n L a->t.depth<=f->
  (b=true->wpAnyLast P .any ops Q (fun w'=>Chg w0 w' C) ds f l a w)/\∀ f',f=f'+1->∀ j ∈ t.heads,wpOp P ops Q j (fun a' w'=>(j ∉ ds->Chg w0 w C->Chg w0 w' C)/\wpAnyLast P .any ops Q (fun w'=>Chg w0 w' C) ds f' (l.setIfInBounds j true) a' w') a w
 | .e,b,l,L,w,a,f,hc,h,ha,hf=>by
  refine ⟨fun hb=>?_,fun f' _ j hj=>by simp [OT.heads] at hj⟩
  subst hb
  exact wpAnyLast_done (by simpa [chkTr] using hc) (h rfl a ha) _
 | .c i s t,b,l,L,w,a,f,hc,h,ha,hf=>by
  simp only [chkTr,Bool.and_eq_true] at hc
  obtain ⟨⟨h1,h2⟩,h3⟩:=hc
  obtain ⟨hd,ht⟩:=h
  simp only [OT.depth] at hf
  have hs:∀ f',f=f'+1->∀ j ∈ (OT.c i s t).heads,wpOp P ops Q j (fun a' w'=>(j ∉ ds->Chg w0 w C->Chg w0 w' C)/\wpAnyLast P .any ops Q (fun w'=>Chg w0 w' C) ds f' (l.setIfInBounds j true) a' w') a w:=by
   intro f' hf' j hj
   rcases List.mem_cons.1 hj with rfl | hj
   ·obtain ⟨o,hi,hft,hk⟩:=hd
    unfold wpOp
    simp only [hi]
    rcases hk with ⟨hw,hk⟩ | ⟨hw,post,hop,hk⟩
    ·rw [if_neg (by rw [zBg hw ha];simp)]
     exact ⟨fun _ h=>h,(TT.sound hq s true _ _ w _ f' h2 hk (ha.putL hft undef) (by omega)).1 rfl⟩
    ·rw [if_pos (zBg hw ha)]
     refine .inl (hop a ha _ _ fun v w' hp=>?_)
     obtain ⟨k1,k2⟩:=hk v w' hp
     exact ⟨k1,(TT.sound hq s true _ _ w' _ f' h2 k2 (ha.putL hft v) (by omega)).1 rfl⟩
   ·exact (TT.sound hq t false l L w a f h3 ht ha (by omega)).2 f' hf' j hj
  refine ⟨fun hb=>?_,hs⟩
  subst hb
  obtain ⟨f',rfl⟩:∃ f',f=f'+1:=⟨f - 1,by omega⟩
  have hr:Region.ready .any ops l=i ::t.heads:=by simpa using h1
  exact wpAnyLast_all hr (by simp [OT.heads]) (hs f' rfl)
theorem WC.drawT {id:Nat} {M:Nat->Prop} (C:Nat->Prop) (st:List Stp) (ds:List Nat) (t:OT) (hm:P.follows .mixedOrders=true) (hq:PanicQ Q) (hs:ops.size=cnt st+t.depth) (hc:chkR ops ds (fun l=>chkTr ops true l t) [] [] st=true) (hM:∀ b,M b->b<w.heap.size)
  (h:∀ w1,Below w.heap.size w w1->DR P ops Q ds (TT P ops Q ds C w1 n true t) C w1 n st [] (fun _=>False) L w1 M):WC P (.region id ops true) Q n L w:=
 WC.drawE (E:=fun w1=>TT P ops Q ds C w1 n true t) (ce:=fun l=>chkTr ops true l t) (tl:=t.depth) C st ds hm hq hs hc (fun w0 l L w a hc h ha=>(TT.sound hq t true l L w a _ hc h ha (Nat.le_refl _)).1 rfl) hM h
theorem TT.one (h:TD P ops Q ds C w0 n i (TT P ops Q ds C w0 n true u) L w):TT P ops Q ds C w0 n true (.c i u .e) L w:=⟨h,fun h=>by cases h⟩
theorem TT.fst (h:TD P ops Q ds C w0 n i (TT P ops Q ds C w0 n true u) L w) (k:TT P ops Q ds C w0 n false t L w) {b:Bool} :TT P ops Q ds C w0 n b (.c i u t) L w:=⟨h,k⟩
theorem TT.last (h:TD P ops Q ds C w0 n i (TT P ops Q ds C w0 n true u) L w):TT P ops Q ds C w0 n false (.c i u .e) L w:=⟨h,fun h=>by cases h⟩
theorem TT.nil (h:∀ a,Fr n L a->Q .normal a w):TT P ops Q ds C w0 n true .e L w:=fun _=>h
variable {K:List (Nat×Value)->World->Prop}
theorem TD.val (hi:ops[i]? =some o) (hw:wantB ops L o=some true) (hd:o.dst=some d) (hn:Nat.blt d n=true) (h:OpV P o n L w v) (k:K ((d,v) ::L) w):TD P ops Q ds C w0 n i K L w:=
 ⟨o,hi,by rw [hd];exact hn,.inr ⟨hw,_,OpV.c h,fun u w' hp=>by obtain ⟨rfl,rfl⟩:=hp;exact ⟨fun _ h=>h,by rw [hd];exact k⟩⟩⟩
theorem TD.s {post:Value->World->Prop} (hi:ops[i]? =some o) (hw:wantB ops L o=some true) (hd:o.dst=none) (hm:ds.contains i=true) (h:OpC P o n L w post) (k:∀ v w',post v w'->K L w'):TD P ops Q ds C w0 n i K L w:=
 ⟨o,hi,by rw [hd];rfl,.inr ⟨hw,post,h,fun v w' hp=>⟨fun hn=>absurd (List.contains_iff_mem.1 hm) hn,by rw [hd];exact k v w' hp⟩⟩⟩
theorem TD.c {post:Value->World->Prop} (hi:ops[i]? =some o) (hw:wantB ops L o=some true) (hd:o.dst=some d) (hn:Nat.blt d n=true) (hm:ds.contains i=true) (h:OpC P o n L w post) (k:∀ v w',post v w'->K ((d,v) ::L) w'):TD P ops Q ds C w0 n i K L w:=
 ⟨o,hi,by rw [hd];exact hn,.inr ⟨hw,post,h,fun v w' hp=>⟨fun hn=>absurd (List.contains_iff_mem.1 hm) hn,by rw [hd];exact k v w' hp⟩⟩⟩
theorem TD.cs {post:Value->World->Prop} (hi:ops[i]? =some o) (hw:wantB ops L o=some true) (hd:o.dst=some d) (hn:Nat.blt d n=true) (h:OpC P o n L w post) (k:∀ v w',post v w'->(Chg w0 w C->Chg w0 w' C)/\K ((d,v) ::L) w'):TD P ops Q ds C w0 n i K L w:=
 ⟨o,hi,by rw [hd];exact hn,.inr ⟨hw,post,h,fun v w' hp=>⟨fun _=>(k v w' hp).1,by rw [hd];exact (k v w' hp).2⟩⟩⟩
end
end Go.Proofs.Ytlmpoindlejefaa.E
namespace Go.Proofs.Ytlmpoindlejefaa.E
open Go Go.RowKit Go.Proofs.YtlmpoindlejefaaW.PrintLast
theorem Own2.semi {α:Type} {a:Kd α} {Wr' M M0:Nat->Prop} {w w0:World} {e1 e2:TypeId} {v:Value} {us:List Value} {xss:List (List α)} (hS:St Wr' w0 M0 w M) (h:Own2 (fun b=>w0.heap.size<=b) M w a e1 e2 v us xss) (hM:∀ b,M0 b->b<w0.heap.size) :
  ∃ M',St Wr' w0 M0 w M'/\Step M w M' w/\(∀ b,M b->¬ B2 v us b->M' b)/\(∀ b,M' b->M b)/\Own (fun b=>w0.heap.size<=b) M' w (Kd.slice a) e1 v xss:=by
 have hst:Step M w (fun b=>M b/\¬ ∃ u ∈ us,u.ownBlock=some b) w:=Step.weak fun b hb=>hb.1
 refine ⟨fun b=>M b/\¬ ∃ u ∈ us,u.ownBlock=some b,⟨hS.eff,hS.step.trans hst,fun b hb=>⟨hS.inc b hb,fun hg=>?_⟩,fun b hb=>hS.lt b hb.1⟩,hst,fun b h1 h2=>⟨h1,fun hx=>h2 (.inr hx)⟩,fun b hb=>hb.1,?_⟩
 ·have:=(h.inB b (.inr hg)).2
  have:=hM b hb
  omega
 have hC:∀ (us:List Value) (xss:List (List α)),us.length=xss.length->(∀ i,i<xss.length->Own (fun b=>w0.heap.size<=b) M w a e2 (us.getD i (.slice none 0 0)) (xss.getD i []))->∀ M':Nat->Prop,(∀ b,M' b->M b)->(∀ u ∈ us,∀ b,B1 u b->¬ M' b)->(Kd.slice a).Cs M' w xss us:=by
  intro us
  induction us with
  | nil=>intro xss hl _ _ _ _;rw [List.eq_nil_of_length_eq_zero hl.symm];exact .nil
  | cons u us ih=>
   intro xss hl hr M' hs hb
   cases xss with
   | nil=>simp at hl
   | cons x xss=>
    have h0:=hr 0 (by simp)
    obtain ⟨A,c,hv,h1,h2,h3,_⟩:=h0.rd hs (fun g hg=>hb u List.mem_cons_self g hg)
    refine Kd.Cs.cons (c:=[u]) (show (Kd.slice a).R M' w x [u] from ⟨A,c,?_,h1,h2,h3⟩) (ih xss (by simpa using hl) (fun i hi=>by simpa using hr (i+1) (by simp;exact hi)) M' hs fun u hu=>hb u (List.mem_cons_of_mem _ hu))
    have:u= .slice A x.length c:=by simpa using hv
    rw [this]
 obtain ⟨hl,cs,h1,h2,h3⟩:=h.out
 have hcv:∀ (us:List Value) (cs:List Value),Kd.val.Cs M w us cs->cs=us:=by
  intro us cs hc
  induction hc with
  | nil=>rfl
  | cons hr _ ih=>rw [hr.1,ih];rfl
 have:=hcv _ _ h2
 subst this
 refine ⟨by rw [<- h.fam.len];exact hl,cs,by rw [<- h.fam.len];exact h1,hC _ _ h.fam.len h.fam.row _ (fun b hb=>hb.1) fun u hu b hb hm=>hm.2 ⟨u,hu,hb⟩,fun g hg=>⟨⟨(h3 g hg).1,fun ⟨u,hu,hb⟩=>h.djo u hu g hg hb⟩,(h3 g hg).2⟩⟩
end Go.Proofs.Ytlmpoindlejefaa.E
