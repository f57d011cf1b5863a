/- The engine, part 11: maps from ints to bools that the call itself has made. No program text. -/
import Derived.Test.YtlmpoindlejefaaGreatSE10
import Derived.Maps.Keyed
import Derived.Carry
set_option linter.unusedVariables false
set_option linter.unusedSimpArgs false
namespace Go.Proofs.YtlmpoindlejefaaGreat.E
open Go Go.RowKit
def mfind:List MapEntry->Int->Nat->Option (Nat×Value)
 | [],_,_=>none
 | e ::es,k,i=>match e.key with
  | .int _ k'=>if k=k' then some (i,e.val) else mfind es k (i+1)
  | _=>mfind es k (i+1)
def intKeys (es:List MapEntry):Prop:=∀ e ∈ es,∃ k,e.key= .int .i64 k
def mread (es:List MapEntry) (k:Int):Value:=match mfind es k 0 with
 | some (_,v)=>v
 | none=>.bool false
theorem mfind_now:∀ (es:List MapEntry) (k:Int) (i:Nat),intKeys es->Instr.findNow (.int .i64) (.int .i64 k) es i=some (mfind es k i)
 | [],_,_,_=>rfl
 | e ::es,k,i,h=>by
  obtain ⟨k',hk⟩:=h e (by simp)
  have ih:=mfind_now es k (i+1) fun e he=>h e (by simp [he])
  unfold Instr.findNow mfind
  rw [hk]
  simp only [Instr.sameNow]
  by_cases c:k=k'
  ·simp [c]
  ·rw [show (k == k')=false from by simpa using c,if_neg c];exact ih
theorem mfind_shift:∀ (es:List MapEntry) (k:Int) (i:Nat),mfind es k (i+1)=(mfind es k i).map fun p=>(p.1+1,p.2)
 | [],_,_=>rfl
 | e ::es,k,i=>by
  unfold mfind
  split
  ·split
   ·rfl
   ·exact mfind_shift es k (i+1)
  ·exact mfind_shift es k (i+1)
theorem mfind_at:∀ (es:List MapEntry) (k:Int) (j:Nat) (v:Value),intKeys es->mfind es k 0=some (j,v)->∃ e,es[j]? =some e/\e.key= .int .i64 k
 | [],_,_,_,_,h=>by simp [mfind] at h
 | e ::es,k,j,v,hk,h=>by
  obtain ⟨k',he⟩:=hk e (by simp)
  unfold mfind at h
  rw [he] at h
  simp only at h
  by_cases c:k=k'
  ·rw [if_pos c] at h
   obtain ⟨rfl,rfl⟩:=by simpa using h
   exact ⟨e,rfl,by rw [he,c]⟩
  ·rw [if_neg c,mfind_shift] at h
   obtain ⟨⟨j',v'⟩,h1,h2⟩:=Option.map_eq_some_iff.1 h
   obtain ⟨rfl,rfl⟩:=by simpa using h2
   obtain ⟨e',h3,h4⟩:=mfind_at es k j' v' (fun e he=>hk e (by simp [he])) h1
   exact ⟨e',by simpa using h3,h4⟩
theorem mread_push (es:List MapEntry) (k:Int) (v:Value) (c:Nat) (hn:mfind es k 0=none) (k':Int):mread (es ++ [⟨.int .i64 k,v,c⟩]) k'=if k'=k then v else mread es k':=by
 have go:∀ (es:List MapEntry) (i:Nat),mfind es k i=none->mfind (es ++ [⟨.int .i64 k,v,c⟩]) k' i=if k'=k then (some (i+es.length,v)) else mfind es k' i:=by
  intro es
  induction es with
  | nil=>intro i _;simp [mfind]
  | cons e es ih=>
   intro i h
   unfold mfind at h |-
   simp only [List.cons_append,List.length_cons]
   cases he:e.key <;> rw [he] at h <;> simp only at h |-
   case int kk k2=>
    by_cases c1:k=k2
    ·rw [if_pos c1] at h;cases h
    ·rw [if_neg c1] at h
     have:=ih (i+1) h
     by_cases c2:k'=k
     ·rw [if_neg (by rw [c2];exact c1),this,if_pos c2,if_pos c2];congr 2;omega
     ·rw [this,if_neg c2,if_neg c2]
   all_goals
    have:=ih (i+1) h
    rw [this]
    by_cases c2:k'=k
    ·rw [if_pos c2,if_pos c2];congr 2;omega
    ·rw [if_neg c2,if_neg c2]
 unfold mread
 rw [go es 0 hn]
 by_cases c2:k'=k
 ·simp [c2]
 ·simp [c2]
theorem mread_set:∀ (es:List MapEntry) (k:Int) (j:Nat) (v0 v:Value) (e e2:MapEntry),intKeys es->mfind es k 0=some (j,v0)->es[j]? =some e->e2.key= .int .i64 k->e2.val=v->∀ k',mread (es.set j e2) k'=if k'=k then v else mread es k':=by
 intro es k j v0 v e e2 hk hf he h1 h2 k'
 have go:∀ (es:List MapEntry) (j i:Nat) (v0:Value) (e:MapEntry),intKeys es->mfind es k 0=some (j,v0)->es[j]? =some e->mfind (es.set j e2) k' i=if k'=k then some (i+j,v) else mfind es k' i:=by
  intro es
  induction es with
  | nil=>intro j i v0 e _ h;simp [mfind] at h
  | cons x es ih=>
   intro j i v0 e hk h he
   obtain ⟨kx,hx⟩:=hk x (by simp)
   unfold mfind at h
   rw [hx] at h
   simp only at h
   by_cases c:k=kx
   ·rw [if_pos c] at h
    obtain ⟨rfl,rfl⟩:=by simpa using h
    simp only [List.set_cons_zero]
    unfold mfind
    rw [h1,hx,h2]
    simp only
    by_cases c2:k'=k
    ·rw [if_pos c2,if_pos c2];rfl
    ·rw [if_neg c2,if_neg c2,if_neg (by rw [<- c];exact c2)]
   ·rw [if_neg c,mfind_shift] at h
    obtain ⟨⟨j',v'⟩,h3,h4⟩:=Option.map_eq_some_iff.1 h
    obtain ⟨rfl,rfl⟩:=by simpa using h4
    simp only [List.set_cons_succ]
    unfold mfind
    rw [hx]
    simp only
    rw [ih j' (i+1) v' e (fun e he=>hk e (by simp [he])) h3 (by simpa using he)]
    by_cases c2:k'=k
    ·rw [if_neg (by rw [c2];exact c),if_pos c2,if_pos c2];congr 2;omega
    ·rw [if_neg c2,if_neg c2]
 unfold mread
 rw [go es j 0 v0 e hk hf he]
 by_cases c2:k'=k
 ·simp [c2]
 ·simp [c2]
def mset (f:Int->Bool) (k:Int) (v:Bool):Int->Bool:=fun i=>if i=k then v else f i
structure Mp (Wr M:Nat->Prop) (w:World) (b:Nat) (f:Int->Bool):Prop where
 m:M b
 wr:Wr b
 row:∃ es clock,w.heap[b]? =some (.map es clock)/\intKeys es.toList/\∀ k,mread es.toList k= .bool (f k)
section
variable {Wr Wr' Wf M M' M0 C:Nat->Prop} {w w' w0:World} {b:Nat} {f:Int->Bool}
theorem Mp.lt (h:Mp Wr M w b f):b<w.heap.size:=by obtain ⟨es,c,h,_⟩:=h.row;exact (Array.getElem?_eq_some_iff.1 h).1
theorem Mp.ltB (h:Mp Wr M w b f):∀ x,Bb b x->x<w.heap.size:=fun x hx=>by rw [show x=b from hx];exact h.lt
theorem Mp.keptC (h:Mp Wr M w b f) (hc:Chg w w' C) (hd:Dis (Bb b) C) (hi:∀ b,M b->M' b):Mp Wr M' w' b f:=by
 obtain ⟨es,c,h1,h2⟩:=h.row
 exact ⟨hi b h.m,h.wr,es,c,(hc.block b h.lt (hd b rfl)).trans h1,h2⟩
variable {P:Program} {o:Oper} {n:Nat} {L:List (Nat×Value)} {T kt vt:TypeId} {x y z:Operand} {k:Int} {v:Bool}
theorem o_mkm (ho:o.op= .makeMap T none) (hS:St Wr w0 M0 w M) (hW:∀ b,Wf b->Wr b) (hF:∀ b,w0.heap.size<=b->Wf b):OpC P o n L w (fun v w'=>∃ b M',v= .map (some b)/\Mp Wf M' w' b (fun _=>false)/\St Wr w0 M0 w' M'/\Step M w M' w'/\Below w.heap.size w w'/\(∀ c,M c->M' c)/\w.heap.size<=b):=fun a ha K Q hK=>by
 have hr:(execOp a.eval o).run P w= .ok (.value (.map (some w.heap.size))) (w.alloc (.map #[] 0)):=by
  simp [execOp,ho,Instr.makeMap]
 unfold Oper.wp
 rw [hr]
 have hb:=below_alloc1 w (.map #[] 0)
 have hst:Step M w (ins M w.heap.size) (w.alloc (.map #[] 0)):=⟨hb.size,fun b h _=>hb.block b h,fun b h=>h.elim (fun e=>.inr (by omega)) .inl⟩
 refine hK _ _ ⟨_,ins M w.heap.size,rfl,⟨.inl rfl,hF _ hS.eff.size,#[],0,heap_alloc_new w _,fun e he=>by simp at he,fun k=>rfl⟩,⟨hS.eff.below hb,hS.step.trans hst,fun b h=>.inr (hS.inc b h),fun b h=>?_⟩,hst,hb,fun c h=>.inr h,Nat.le_refl _⟩
 rcases h with rfl | h
 ·simp
 ·have:=hS.lt b h
  simp
  omega
theorem o_mlk (hu:P.underlying T=some (.map kt vt)) (hk:P.underlying kt=some (.int .i64)) (hz:(P.info? vt).bind (·.zero)=some (.bool false)) (hm:Mp Wr M w b f) (ho:o.op= .lookup T x y false:=by rfl) (hx:ev L x=some (.map (some b)):=by rfl) (hy:ev L y=some (.int .i64 k):=by rfl):OpV P o n L w (.bool (f k)):=fun a ha=>by
 obtain ⟨es,c,h1,h2,h3⟩:=hm.row
 have hf:=MapKept.run_findKey (w:=w) hk (mfind_now es.toList k 0 h2)
 have hc:=MapKept.run_checkKey (w:=w) (k:=.int .i64 k) hk (by simp [MapKept.IsKey]) es.isEmpty 9999
 obtain ⟨inf,hi,hz⟩:=Option.bind_eq_some_iff.1 hz
 have h4:=h3 k
 unfold mread at h4
 cases hq:mfind es.toList k 0 with
 | none=>
  rw [hq] at h4 hf
  simp only at h4
  simp [execOp,ho,ha.ev hx,ha.ev hy,Instr.lookup,run_underlying hu,MapKept.run_getObj_map h1,hc,hf,Result.andThen,zeroValue,typeInfo,hi,hz,<- h4]
 | some p=>
  rw [hq] at h4 hf
  simp only at h4
  simp [execOp,ho,ha.ev hx,ha.ev hy,Instr.lookup,run_underlying hu,MapKept.run_getObj_map h1,hc,hf,Result.andThen,<- h4]
theorem o_mup (hu:P.underlying T=some (.map kt vt)) (hk:P.underlying kt=some (.int .i64)) (hm:Mp Wf M w b f) (hW:∀ b,Wf b->Wr b) (hS:St Wr w0 M0 w M) (ho:o.op= .mapUpdate T x y z:=by rfl) (hx:ev L x=some (.map (some b)):=by rfl) (hy:ev L y=some (.int .i64 k):=by rfl) (hv:ev L z=some (.bool v):=by rfl) :
  OpC P o n L w (fun _ w'=>Mp Wf M w' b (mset f k v)/\St Wr w0 M0 w' M/\Step M w M w'/\w.grownBy w' (some b)):=fun a ha K Q hK=>by
 obtain ⟨es,c,h1,h2,h3⟩:=hm.row
 have hf:=MapKept.run_findKey (w:=w) hk (mfind_now es.toList k 0 h2)
 have hc:=MapKept.run_checkKey (w:=w) (k:=.int .i64 k) hk (by simp [MapKept.IsKey]) false 9999
 have fin:∀ es' c',(execOp a.eval o).run P w= .ok .skip (ChangeMaps.setBlock w b (.map es' c'))->intKeys es'.toList->(∀ k',mread es'.toList k'=if k'=k then .bool v else mread es.toList k')->o.wp P a w K Q:=by
  intro es' c' hr hi hv
  unfold Oper.wp
  rw [hr,Oper.upon_skip]
  have hg:w.grownBy (ChangeMaps.setBlock w b (.map es' c')) (some b):=⟨rfl,rfl,rfl,by simp [ChangeMaps.setBlock],fun i _ hi=>ChangeMaps.heap_setBlock_other h1 _ (fun e=>hi (by rw [e]))⟩
  have hst:Step M w M (ChangeMaps.setBlock w b (.map es' c')):=⟨hg.size,fun c hc hn=>hg.block c hc (fun e=>hn (by injection e with e;rw [e];exact hm.m)),fun _ h=>.inl h⟩
  refine hK _ _ ⟨⟨hm.m,hm.wr,es',c',ChangeMaps.heap_setBlock_same h1 _,hi,fun k'=>?_⟩,⟨hS.eff.grown hg (fun c e=>by injection e with e;rw [<- e];exact hW _ hm.wr),hS.step.trans hst,hS.inc,fun c hc=>Nat.lt_of_lt_of_le (hS.lt c hc) hg.size⟩,hst,hg⟩
  rw [hv,h3]
  unfold mset
  by_cases e:k'=k <;> simp [e]
 cases hq:mfind es.toList k 0 with
 | none=>
  rw [hq] at hf
  refine fin (es.push ⟨.int .i64 k,.bool v,c⟩) (c+1) ?_ ?_ ?_
  ·simp [execOp,ho,ha.ev hx,ha.ev hy,ha.ev hv,Instr.mapUpdate,run_underlying hu,MapKept.run_getObj_map h1,hc,hf,MapKept.run_setObj_map _ h1,Result.andThen,ChangeMaps.setBlock]
  ·intro e he
   simp only [Array.toList_push,List.mem_append,List.mem_singleton] at he
   rcases he with he | rfl
   ·exact h2 e he
   ·exact ⟨k,rfl⟩
  ·intro k'
   rw [Array.toList_push]
   exact mread_push _ _ _ _ hq k'
 | some p=>
  obtain ⟨j,v0⟩:=p
  rw [hq] at hf
  obtain ⟨e,he,hke⟩:=mfind_at _ _ _ _ h2 hq
  have hj:es[j]? =some e:=by simpa using he
  have hlist:(es.modify j (fun e'=>{ e' with key:=.int .i64 k,val:=.bool v })).toList=es.toList.set j { e with key:=.int .i64 k,val:=.bool v }:=by rw [Array.toList_modify,ChangeMaps.modify_eq_set _ _ _ _ he]
  refine fin (es.modify j (fun e'=>{ e' with key:=.int .i64 k,val:=.bool v })) c ?_ ?_ ?_
  ·simp [execOp,ho,ha.ev hx,ha.ev hy,ha.ev hv,Instr.mapUpdate,run_underlying hu,MapKept.run_getObj_map h1,hc,hf,hj,hke,Instr.keyThatStays,Instr.sameBits,MapKept.run_setObj_map _ h1,Result.andThen,ChangeMaps.setBlock]
  ·rw [hlist]
   intro x hx
   rcases List.mem_or_eq_of_mem_set hx with hx | rfl
   ·exact h2 x hx
   ·exact ⟨k,rfl⟩
  ·rw [hlist]
   exact mread_set _ _ _ _ _ e _ h2 hq he rfl rfl
end
end Go.Proofs.YtlmpoindlejefaaGreat.E
