/- The engine, part 7: the rules of part 6 one by one; variables of which parts are written. No program text. -/
import Derived.Test.YtbjnmmgnonldnaaKE6
set_option linter.unusedVariables false
set_option linter.unusedSimpArgs false
namespace Go.Proofs.Ytbjnmmgnonldnaa.E
open Go Go.RowKit Go.Proofs.YtbjnmmgnonldnaaW.PrintLast
section
variable {P:Program} {ops:Array Oper} {Q:Exit->Act->World->Prop} {ds:List Nat} {E:List (Nat×Value)->World->Prop} {C:Nat->Prop} {w0:World} {n i d:Nat} {r:List Stp} {pend:List Late} {had:Nat->Prop} {L:List (Nat×Value)} {w:World} {M:Nat->Prop} {o:Oper} {v:Value}
theorem DR.val (hi:ops[i]? =some o) (hw:wantB ops L o=some true) (hd:o.dst=some d) (hn:Nat.blt d n=true) (hp:pOk pend (some d)=true) (h:∀ w',Chg w0 w' C->OpV P o n L w' v) (k:DR P ops Q ds E C w0 n r pend had ((d,v) ::L) w M):DR P ops Q ds E C w0 n (.take i ::r) pend had L w M:=
 ⟨o,v,hi,by rw [hd];exact hn,by rw [hd];exact hp,.inl ⟨hw,h⟩,by rw [hd];exact k⟩
theorem DR.b {b b':Bool} (hi:ops[i]? =some o) (hw:wantB ops L o=some true) (hd:o.dst=some d) (hn:Nat.blt d n=true) (hp:pOk pend (some d)=true) (h:∀ w',Chg w0 w' C->OpV P o n L w' (.bool b)) (hb:b=b') (k:DR P ops Q ds E C w0 n r pend had ((d,.bool b') ::L) w M):DR P ops Q ds E C w0 n (.take i ::r) pend had L w M:=by
 subst hb
 exact DR.val hi hw hd hn hp h k
theorem DR.off (hi:ops[i]? =some o) (hw:wantB ops L o=some false) (hd:o.dst=some d) (hn:Nat.blt d n=true) (hp:pOk pend (some d)=true) (k:DR P ops Q ds E C w0 n r pend had ((d,undef) ::L) w M):DR P ops Q ds E C w0 n (.take i ::r) pend had L w M:=
 ⟨o,undef,hi,by rw [hd];exact hn,by rw [hd];exact hp,.inr ⟨hw,rfl⟩,by rw [hd];exact k⟩
theorem DR.pval (hi:ops[i]? =some o) (hw:wantB ops L o=some true) (hd:o.dst=some d) (hn:Nat.blt d n=true) (hp:pOk pend (some d)=true) (h:∀ w',OpV P o n L w' v) (k:DR P ops Q ds E C w0 n r pend had ((d,v) ::L) w M):DR P ops Q ds E C w0 n (.pure_ i ::r) pend had L w M:=
 ⟨o,v,hi,by rw [hd];exact hn,by rw [hd];exact hp,.inl ⟨hw,h⟩,by rw [hd];exact k⟩
theorem DR.offc (hi:ops[i]? =some o) (hw:wantB ops L o=some false) (hd:o.dst=some d) (hn:Nat.blt d n=true) (hp:pOk pend (some d)=true) (k:DR P ops Q ds E C w0 n r pend had ((d,undef) ::L) w M):DR P ops Q ds E C w0 n (.call i ::r) pend had L w M:=
 ⟨o,hi,by rw [hd];exact hn,by rw [hd];exact hp,.inl ⟨hw,by rw [hd];exact k⟩⟩
theorem DR.c (hi:ops[i]? =some o) (hw:wantB ops L o=some true) (hd:o.dst=some d) (hn:Nat.blt d n=true) (hp:pOk pend (some d)=true)
  (h:∀ w1 M1,Grow w M w1 M1->∃ post,OpC P o n L w1 post/\∀ v w',post v w'->∃ M',Grow w1 M1 w' M'/\DR P ops Q ds E C w0 n r pend (hadC had w1 w') ((d,v) ::L) w' M'):DR P ops Q ds E C w0 n (.call i ::r) pend had L w M:=
 ⟨o,hi,by rw [hd];exact hn,by rw [hd];exact hp,.inr ⟨hw,fun w1 M1 hg _=>by
  obtain ⟨post,h1,h2⟩:=h w1 M1 hg
  exact ⟨post,h1,fun v w' hp=>by
   obtain ⟨M',h3,h4⟩:=h2 v w' hp
   exact ⟨M',h3.p,by rw [hd];exact h4⟩⟩⟩⟩
theorem DR.c0 (he:pend= []) (hi:ops[i]? =some o) (hw:wantB ops L o=some true) (hd:o.dst=some d) (hn:Nat.blt d n=true) (hp:pOk pend (some d)=true)
  (h:∃ post,OpC P o n L w post/\∀ v w',post v w'->∃ M',(Below w.heap.size w w'/\∀ b,M' b->b<w'.heap.size)/\DR P ops Q ds E C w0 n r pend (hadC had w w') ((d,v) ::L) w' M'):DR P ops Q ds E C w0 n (.call i ::r) pend had L w M:=
 ⟨o,hi,by rw [hd];exact hn,by rw [hd];exact hp,.inr ⟨hw,fun w1 M1 _ he'=>by
  obtain ⟨rfl,rfl⟩:=he' he
  obtain ⟨post,h1,h2⟩:=h
  exact ⟨post,h1,fun v w' hp=>by
   obtain ⟨M',h3,h4⟩:=h2 v w' hp
   exact ⟨M',⟨h3.1,h3.2,fun e=>absurd he e⟩,by rw [hd];exact h4⟩⟩⟩⟩
theorem DR.cv0 {M':Nat->Prop} (h:OpV P o n L w v) (hl:∀ b,M' b->b<w.heap.size) (k:DR P ops Q ds E C w0 n r pend (hadC had w w) ((d,v) ::L) w M'):∃ post,OpC P o n L w post/\∀ v w',post v w'->∃ M',(Below w.heap.size w w'/\∀ b,M' b->b<w'.heap.size)/\DR P ops Q ds E C w0 n r pend (hadC had w w') ((d,v) ::L) w' M':=
 ⟨_,OpV.c h,fun u w' hp=>by obtain ⟨rfl,rfl⟩:=hp;exact ⟨M',⟨Below.refl _ _,hl⟩,k⟩⟩
theorem Grow.q {w':World} {M':Nat->Prop} (h:Grow w M w' M'):Below w.heap.size w w'/\∀ b,M' b->b<w'.heap.size:=⟨h.below,h.lt⟩
theorem DR.ann (lt:Late) (he:lt.i=i) (hi:ops[i]? =some o) (hd:o.dst=some lt.d) (hn:Nat.blt lt.d n=true) (hg:o.guard=none) (hop:OpA P o n lt.L lt.obj lt.mkv) (ha:aOk pend lt=true) (hl:(lk L lt.d).isNone=true) (hf:∀ a,Fr n L a->Fr n lt.L a)
  (k:DR P ops Q ds E C w0 n r (lt ::pend) had L w M):DR P ops Q ds E C w0 n (.ann i ::r) pend had L w M:=by
 subst he
 exact ⟨lt,rfl,⟨o,hi,hd,hn,hg,hop⟩,ha,hl,hf,k⟩
theorem DR.have1 {lt:Late} (k:Nat) (hk:pend[k]? =some lt) (he:lt.i=i)
  (h:∀ w1 M1 b,Grow w M w1 M1->w1.heap[b]? =some lt.obj->w0.heap.size<=b->(lt.own=true->M1 b)->(lt.own=false->¬ M1 b)->¬ had b->DR P ops Q ds E C w0 n r (pend.filter fun p=>!(Nat.beq p.i i)) (hadB had b) ((lt.d,lt.mkv b) ::L) w1 M1):DR P ops Q ds E C w0 n (.have_ i ::r) pend had L w M:=
 ⟨lt,List.mem_of_getElem? hk,he,h⟩
theorem DR.end_ (h:E L w):DR P ops Q ds E C w0 n [] pend had L w M:=h
theorem DT.val {t:List Nat} (hi:ops[i]? =some o) (hw:wantB ops L o=some true) (hd:o.dst=some d) (hn:Nat.blt d n=true) (h:OpV P o n L w v) (k:DT P ops Q ds C w0 n t ((d,v) ::L) w):DT P ops Q ds C w0 n (i ::t) L w:=
 ⟨o,hi,by rw [hd];exact hn,.inr ⟨hw,_,OpV.c h,fun u w' hp=>by obtain ⟨rfl,rfl⟩:=hp;exact ⟨fun _ h=>h,by rw [hd];exact k⟩⟩⟩
theorem DT.b {t:List Nat} {b b':Bool} (hi:ops[i]? =some o) (hw:wantB ops L o=some true) (hd:o.dst=some d) (hn:Nat.blt d n=true) (h:OpV P o n L w (.bool b)) (hb:b=b') (k:DT P ops Q ds C w0 n t ((d,.bool b') ::L) w):DT P ops Q ds C w0 n (i ::t) L w:=by
 subst hb
 exact DT.val hi hw hd hn h k
theorem DT.off {t:List Nat} (hi:ops[i]? =some o) (hw:wantB ops L o=some false) (hn:fits o.dst n=true) (k:DT P ops Q ds C w0 n t (putL o.dst undef L) w):DT P ops Q ds C w0 n (i ::t) L w:=⟨o,hi,hn,.inl ⟨hw,k⟩⟩
theorem DT.s {t:List Nat} {post:Value->World->Prop} (hi:ops[i]? =some o) (hw:wantB ops L o=some true) (hd:o.dst=none) (hm:ds.contains i=true) (h:OpC P o n L w post) (k:∀ v w',post v w'->DT P ops Q ds C w0 n t L w'):DT P ops Q ds C w0 n (i ::t) L w:=
 ⟨o,hi,by rw [hd];rfl,.inr ⟨hw,post,h,fun v w' hp=>⟨fun hn=>absurd (List.contains_iff_mem.1 hm) hn,by rw [hd];exact k v w' hp⟩⟩⟩
theorem DT.c {t:List Nat} {post:Value->World->Prop} (hi:ops[i]? =some o) (hw:wantB ops L o=some true) (hd:o.dst=some d) (hn:Nat.blt d n=true) (hm:ds.contains i=true) (h:OpC P o n L w post) (k:∀ v w',post v w'->DT P ops Q ds C w0 n t ((d,v) ::L) w'):DT P ops Q ds C w0 n (i ::t) L w:=
 ⟨o,hi,by rw [hd];exact hn,.inr ⟨hw,post,h,fun v w' hp=>⟨fun hn=>absurd (List.contains_iff_mem.1 hm) hn,by rw [hd];exact k v w' hp⟩⟩⟩
theorem DT.nil (h:∀ a,Fr n L a->Q .normal a w):DT P ops Q ds C w0 n [] L w:=h
end
section
variable {P:Program} {o:Oper} {n:Nat} {L:List (Nat×Value)} {w w0:World} {v u:Value} {x y:Operand} {T e:TypeId} {d:TypeDesc} {Wr M M0:Nat->Prop}
theorem a_alloc {z:Value} (ho:o.op= .alloc T) (hz:(P.info? T).bind (·.zero)=some z):OpA P o n L (.cells z.cells T) (fun b=>.pointer (some ⟨b,0,none⟩)):=fun a w ha=>by
 obtain ⟨inf,hi,hz⟩:=Option.bind_eq_some_iff.1 hz
 simp [execOp,ho,Instr.alloc,zeroValue,typeInfo,hi,hz,newVar,newRow]
theorem o_stp {b off:Nat} {cs:Array Value} (ho:o.op= .store T x y) (hx:ev L x=some (.pointer (some ⟨b,off,none⟩))) (hy:ev L y=some u) (hs:(P.info? T).map (·.size)=some u.cells.size) (hl:off+u.cells.size<=cs.size) (h1:∀ z ∈ u.cells.toList,z.oneCell'=true)
  {T':TypeId} (hb:Mb Wr M w b T' cs) (hS:St Wr w0 M0 w M):OpC P o n L w (fun _ w'=>Mb Wr M w' b T' (cs.toList.take off ++ u.cells.toList ++ cs.toList.drop (off+u.cells.toList.length)).toArray/\St Wr w0 M0 w' M/\Step M w M w'/\w.grownBy w' (some b)):=fun a ha K Q hK=>by
 obtain ⟨inf,hi,hz⟩:=Option.map_eq_some_iff.1 hs
 have hst:=run_storeCells_at P b off T' u.cells.toList 0 cs w hb.row (by simpa using hl) h1
 rw [Nat.add_zero] at hst
 have hr:(execOp a.eval o).run P w= .ok .skip (w.setRow b (cs.toList.take off ++ u.cells.toList ++ cs.toList.drop (off+u.cells.toList.length)).toArray):=by
  simp only [execOp,ho,ha.ev hx,ha.ev hy,Instr.storeAt,Instr.sureAddr,Sem.run_bind,Sem.run_pure,Result.andThen_ok,storeVar,sizeOf,typeInfo,run_program,hi,hz]
  simp [hst]
 unfold Oper.wp
 rw [hr,Oper.upon_skip]
 have hg:=grown_setRow w b (cs.toList.take off ++ u.cells.toList ++ cs.toList.drop (off+u.cells.toList.length)).toArray
 have hst:Step M w M (w.setRow b (cs.toList.take off ++ u.cells.toList ++ cs.toList.drop (off+u.cells.toList.length)).toArray):=⟨hg.size,fun c hc hn=>hg.block c hc (fun e=>hn (by injection e with e;rw [e];exact hb.m)),fun _ h=>.inl h⟩
 refine hK _ _ ⟨⟨hb.m,hb.wr,setRow_heap w b cs _ T' (0,0) hb.row⟩,⟨hS.eff.grown hg (fun c e=>by injection e with e;rw [<- e];exact hb.wr),hS.step.trans hst,hS.inc,fun c hc=>Nat.lt_of_lt_of_le (hS.lt c hc) hg.size⟩,hst,hg⟩
theorem o_boxM (ho:o.op= .box T x) (hx:ev L x=some u) (hS:St Wr w0 M0 w M) (hWr:∀ b,w0.heap.size<=b->Wr b):OpC P o n L w (fun v w'=>∃ b M',v= .pointer (some ⟨b,0,none⟩)/\Mb Wr M' w' b T u.cells/\St Wr w0 M0 w' M'/\Step M w M' w'/\Below w.heap.size w w'/\(∀ c,M c->M' c)/\w.heap.size<=b):=fun a ha K Q hK=>by
 have hr:(execOp a.eval o).run P w= .ok (.value (.pointer (some ⟨w.heap.size,0,none⟩))) (w.alloc (.cells u.cells T)):=by
  simp [execOp,ho,ha.ev hx,Instr.box,newVar,newRow]
 unfold Oper.wp
 rw [hr]
 have hb:=below_alloc1 w (.cells u.cells T)
 have hst:Step M w (ins M w.heap.size) (w.alloc (.cells u.cells T)):=⟨hb.size,fun b h _=>hb.block b h,fun b h=>h.elim (fun e=>.inr (by omega)) .inl⟩
 refine hK _ _ ⟨_,ins M w.heap.size,rfl,⟨.inl rfl,hWr _ hS.eff.size,heap_alloc_new w _⟩,⟨hS.eff.below hb,hS.step.trans hst,fun b h=>.inr (hS.inc b h),fun b h=>?_⟩,hst,hb,fun c h=>.inr h,Nat.le_refl _⟩
 rcases h with rfl | h
 ·simp
 ·have:=hS.lt b h
  simp
  omega
theorem o_alloc' {z:Value} (ho:o.op= .alloc T) (hz:(P.info? T).bind (·.zero)=some z) (hS:St Wr w0 M0 w M) (hWr:∀ b,w0.heap.size<=b->Wr b):OpC P o n L w (fun v w'=>∃ b M',v= .pointer (some ⟨b,0,none⟩)/\Mb Wr M' w' b T z.cells/\St Wr w0 M0 w' M'/\Step M w M' w'/\Below w.heap.size w w'/\(∀ c,M c->M' c)/\w.heap.size<=b):=fun a ha K Q hK=>by
 obtain ⟨inf,hi,hz⟩:=Option.bind_eq_some_iff.1 hz
 have hr:(execOp a.eval o).run P w= .ok (.value (.pointer (some ⟨w.heap.size,0,none⟩))) (w.alloc (.cells z.cells T)):=by
  simp [execOp,ho,Instr.alloc,zeroValue,typeInfo,hi,hz,newVar,newRow]
 unfold Oper.wp
 rw [hr]
 have hb:=below_alloc1 w (.cells z.cells T)
 have hst:Step M w (ins M w.heap.size) (w.alloc (.cells z.cells T)):=⟨hb.size,fun b h _=>hb.block b h,fun b h=>h.elim (fun e=>.inr (by omega)) .inl⟩
 refine hK _ _ ⟨_,ins M w.heap.size,rfl,⟨.inl rfl,hWr _ hS.eff.size,heap_alloc_new w _⟩,⟨hS.eff.below hb,hS.step.trans hst,fun b h=>.inr (hS.inc b h),fun b h=>?_⟩,hst,hb,fun c h=>.inr h,Nat.le_refl _⟩
 rcases h with rfl | h
 ·simp
 ·have:=hS.lt b h
  simp
  omega
theorem o_box' (ho:o.op= .box T x) (hx:ev L x=some u) (hS:St Wr w0 M0 w M):OpC P o n L w (fun v w'=>∃ b,v= .pointer (some ⟨b,0,none⟩)/\Bx M w' b u.cells.toList/\St Wr w0 M0 w' M/\Step M w M w'/\Below w.heap.size w w'):=fun a ha K Q hK=>by
 have hr:(execOp a.eval o).run P w= .ok (.value (.pointer (some ⟨w.heap.size,0,none⟩))) (w.alloc (.cells u.cells T)):=by
  simp [execOp,ho,ha.ev hx,Instr.box,newVar,newRow]
 unfold Oper.wp
 rw [hr]
 have hb:=below_alloc1 w (.cells u.cells T)
 exact hK _ _ ⟨_,rfl,⟨fun hm=>Nat.lt_irrefl _ (hS.lt _ hm),by simp,At.of_row (heap_alloc_new w _)⟩,hS.below hb,Step.below hb,hb⟩
end
end Go.Proofs.Ytbjnmmgnonldnaa.E
