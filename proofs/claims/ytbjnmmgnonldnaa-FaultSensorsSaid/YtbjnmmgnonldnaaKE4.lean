/- The engine, part 4: rows of the call's own, rows that are read, results. No program text. -/
import Derived.Test.YtbjnmmgnonldnaaKE3
set_option linter.unusedVariables false
set_option linter.unusedSimpArgs false
namespace Go.Proofs.Ytbjnmmgnonldnaa.E
open Go Go.RowKit
theorem add_lit (b off k:Nat):(⟨b,off,none⟩:Addr).add k= ⟨b,off+k,none⟩:=by unfold Addr.add;split <;> simp_all
def Own {α:Type} (Wr M:Nat->Prop) (w:World) (a:Kd α) (e:TypeId) (v:Value) (xs:List α):Prop:=
 xs.length<=281474976710656/\∃ cs,w.ownsRow 0 e a.sz v xs.length cs/\a.Cs M w xs cs/\∀ g,v.ownBlock=some g->M g/\Wr g
section
variable {α β:Type} {a:Kd α} {a':Kd β} {Wr M M' M0:Nat->Prop} {w w' w0:World} {e e':TypeId} {u v:Value} {xs ys:List α} {zs:List β}
theorem own_lt {base size n:Nat} {cs:List Value} (h:w.ownsRow base e size v n cs) (k:Nat) (hk:v.ownBlock=some k):k<w.heap.size:=by
 rcases h.2 with ⟨rfl,_⟩ | ⟨g,cap,cur,rfl,hb,hh,_⟩
 ·simp [Value.ownBlock] at hk
 ·have:g=k:=by simpa [Value.ownBlock] using hk
  subst this
  exact (Array.getElem?_eq_some_iff.1 hh).1
theorem Own.lt (h:Own Wr M w a e v xs) {g:Nat} (hg:v.ownBlock=some g):g<w.heap.size:=by obtain ⟨_,cs,h1,_⟩:=h;exact own_lt h1 g hg
theorem Own.nil (Wr M:Nat->Prop) (w:World) (a:Kd α) (e:TypeId):Own Wr M w a e (.slice none 0 0) ([]:List α):=⟨by simp,[],⟨by simp,.inl ⟨rfl,rfl⟩⟩,.nil,fun g h=>by simp [Value.ownBlock] at h⟩
theorem Own.form (h:Own Wr M w a e v xs):∃ A c,v= .slice A xs.length c/\xs.length<=c:=by
 obtain ⟨_,cs,h,_⟩:=h
 rcases h.2 with ⟨h1,h2⟩ | ⟨g,cap,cur,h1,_,_,h2,_⟩
 ·exact ⟨none,0,by rw [h1,h2],by omega⟩
 ·exact ⟨_,cap,h1,h2⟩
theorem Own.ix (h:Own Wr M w a e v xs) {i:Int} (h0:0<=i) (h1:i<xs.length) :
  ∃ g cap c, v = .slice (some ⟨g, 0, none⟩) xs.length cap /\ g < w.heap.size /\ At w g (0 + i.toNat * a.sz) c /\ a.R M w (xs[i.toNat]'(by omega)) c := by
 obtain ⟨hl,cs,h2,h3,h4⟩:=h
 obtain ⟨pre,c,post,hcs,hp,hr,_⟩:=h3.at_ i.toNat (by omega)
 rcases h2.2 with ⟨hv,hn⟩ | ⟨g,cap,cur,rfl,hb,hh,h5,h6,h7,h8⟩
 ·omega
 ·refine ⟨g,cap,c,rfl,(Array.getElem?_eq_some_iff.1 hh).1,?_,hr⟩
  have ha:At w g 0 cs:=fun j u hu=>by
   have:=At.of_row hh j u (by
    rw [<- h8] at hu
    rw [List.getElem?_take] at hu
    split at hu
    ·exact hu
    ·cases hu)
   exact this
  rw [hcs] at ha
  rw [<- hp]
  exact ha.part
theorem Own.rd (h:Own Wr M w a e v xs) (hs:∀ b,M' b->M b) (hn:∀ g,v.ownBlock=some g->¬ M' g):∃ A c,v= .slice A xs.length c/\xs.length<=c/\xs.length<=281474976710656/\Rd a M' w A xs/\(A=none->xs= []):=by
 obtain ⟨hl,cs,h2,h3,h4⟩:=h
 rcases h2.2 with ⟨hv,hz⟩ | ⟨g,cap,cur,rfl,hb,hh,h5,h6,h7,h8⟩
 ·have:xs= []:=List.eq_nil_of_length_eq_zero hz
  exact ⟨none,0,by rw [hv,hz],by omega,hl,.inl this,fun _=>this⟩
 ·refine ⟨_,cap,rfl,h5,hl,.inr ⟨g,0,cs,rfl,hn g rfl,(Array.getElem?_eq_some_iff.1 hh).1,h3.to (Step.weak hs),fun j u hu=>?_⟩,fun h=>by cases h⟩
  refine At.of_row hh j u ?_
  rw [<- h8] at hu
  rw [List.getElem?_take] at hu
  split at hu
  ·exact hu
  ·cases hu
theorem Rd.part {A:Option Addr} (h:Rd a M w A xs) (i m:Nat) (hm:i+m<=xs.length) (h0:0<m):Rd a M w (A.map (·.add (i*a.sz))) ((xs.drop i).take m):=by
 rcases h with rfl | ⟨b,off,cs,rfl,hn,hb,hc,ha⟩
 ·simp at hm;omega
 ·obtain ⟨pre,c,post,rfl,hp,hr⟩:=hc.part i m hm
  refine .inr ⟨b,off+i*a.sz,c,?_,hn,hb,hr,?_⟩
  ·simp [add_lit]
  ·rw [<- hp]
   exact ha.part
end
section
variable {P:Program} {o:Oper} {n:Nat} {L:List (Nat×Value)} {w w0:World} {x y z:Operand} {T e:TypeId} {Wr M M0:Nat->Prop} {α:Type} {a:Kd α} {k k':IntKind}
theorem zeros_cells (z:Value) (m sz:Nat) (hz:z.cells.size=sz):(madeCells z.cells (m*sz)).toList=(List.replicate m z.cells.toList).flatten:=by
 subst hz
 induction m with
 | zero=>simp [madeCells]
 | succ m ih=>
  rw [List.replicate_succ',List.flatten_append,<- ih]
  apply List.ext_getElem
  ·simp [madeCells,Nat.add_mul]
  ·intro i h1 h2
   simp only [madeCells,Array.getElem_toList,Array.getElem_map,Array.getElem_range,List.flatten_cons,List.flatten_nil,List.append_nil]
   rw [List.getElem_append]
   split
   ·simp
   ·rename_i h3
    simp only [Array.length_toList,Array.size_map,Array.size_range] at h3
    simp only [madeCells,Array.length_toList,Array.size_map,Array.size_range] at h1
    have hp:0<z.cells.size:=by
     rcases Nat.eq_zero_or_pos z.cells.size with h | h
     ·rw [h] at h1;simp at h1
     ·exact h
    have h4:i<m*z.cells.size+z.cells.size:=by rw [Nat.add_mul,Nat.one_mul] at h1;exact h1
    have he:i % z.cells.size=i - m*z.cells.size:=by
     obtain ⟨q,rfl⟩:∃ q,i=m*z.cells.size+q:=⟨i - m*z.cells.size,by omega⟩
     rw [Nat.mul_comm,Nat.mul_add_mod]
     rw [Nat.mod_eq_of_lt (by omega),Nat.mul_comm]
     omega
    rw [he]
    simp [Array.getElem!_eq_getD,Array.getD_eq_getD_getElem?,Array.getElem?_eq_getElem (show i - m*z.cells.size<z.cells.size by omega)]
theorem Cs.zeros {M:Nat->Prop} {w:World} {x0:α} {c:List Value} (h:a.R M w x0 c):∀ m,a.Cs M w (List.replicate m x0) (List.replicate m c).flatten
 | 0=>.nil
 | m+1=>by
  rw [List.replicate_succ,List.replicate_succ,List.flatten_cons]
  exact .cons h (Cs.zeros h m)
theorem o_make {m c:Nat} {z0:Value} {bytes:Nat} {x0:α} (ho:o.op= .makeSlice T x y) (hu:P.underlying T=some (.slice e)) (hi:(P.info? e).map (fun i=>(i.zero,i.size,i.bytes))=some (some z0,a.sz,bytes)) (hz:z0.cells.size=a.sz) (hx:ev L x=some (.int k m)) (hy:ev L y=some (.int k' c))
  (hmc:m<=c) (hb:c*bytes<=281474976710656) (hb0:0<bytes) (h0:∀ M w,a.R M w x0 z0.cells.toList) (hS:St Wr w0 M0 w M) (hWr:∀ b,w0.heap.size<=b->Wr b) :
  OpC P o n L w (fun v w'=>∃ M',Own Wr M' w' a e v (List.replicate m x0)/\St Wr w0 M0 w' M'/\Step M w M' w'/\Below w.heap.size w w'/\(∀ b,M b->M' b)/\(∀ g,v.ownBlock=some g->w.heap.size<=g)):=fun act ha K Q hK=>by
 obtain ⟨inf,hinf,hzz⟩:=Option.map_eq_some_iff.1 hi
 simp only [Prod.mk.injEq] at hzz
 obtain ⟨hz0,hz1,hz2⟩:=hzz
 have hc63:c<=281474976710656:=Nat.le_trans (Nat.le_mul_of_pos_right _ hb0) hb
 have hbi:(inf.bytes:Int)*(c:Int)<=281474976710656:=by
  rw [hz2,Int.mul_comm,<- Int.natCast_mul]
  omega
 have hr:=run_make (P:=P) w T e inf z0 hu hinf hz0 k k' (m:Int) (c:Int) (by omega) (by omega) hbi (by omega)
 rw [hz1] at hr
 simp only [Int.toNat_natCast] at hr
 have hop:(execOp act.eval o).run P w= .ok (.value (.slice (some ⟨w.heap.size,0,none⟩) m c)) (w.alloc (.cells (madeCells z0.cells (c*a.sz)) e)):=by
  simp only [execOp,ho,ha.ev hx,ha.ev hy,Sem.run_bind,hr,Result.andThen_ok]
  rfl
 unfold Oper.wp
 rw [hop]
 have hbl:=below_alloc1 w (.cells (madeCells z0.cells (c*a.sz)) e)
 have hst:Step M w (ins M w.heap.size) (w.alloc (.cells (madeCells z0.cells (c*a.sz)) e)):=⟨hbl.size,fun b h _=>hbl.block b h,fun b h=>h.elim (fun e=>.inr (by omega)) .inl⟩
 refine hK _ _ ⟨ins M w.heap.size,⟨by simp;omega,(List.replicate m z0.cells.toList).flatten,⟨?_,.inr ⟨w.heap.size,c,madeCells z0.cells (c*a.sz),?_,Nat.zero_le _,heap_alloc_new w _,?_,?_,?_,?_⟩⟩,Cs.zeros (h0 _ _) m,fun g hg=>?_⟩,⟨hS.eff.below hbl,hS.step.trans hst,fun b h=>.inr (hS.inc b h),fun b h=>?_⟩,hst,hbl,fun b h=>.inr h,fun g hg=>?_⟩
 ·simp [List.length_flatten,hz]
 ·simp
 ·simpa using hmc
 ·simp only [maxLen];omega
 ·simp [size_madeCells]
 ·rw [zeros_cells z0 c a.sz hz]
  obtain ⟨d,rfl⟩:∃ d,c=m+d:=⟨c - m,by omega⟩
  rw [<- List.replicate_append_replicate,List.flatten_append]
  exact List.take_left' (by simp [List.length_flatten,hz])
 ·have:w.heap.size=g:=by simpa [Value.ownBlock] using hg
  subst this
  exact ⟨.inl rfl,hWr _ hS.eff.size⟩
 ·rcases h with rfl | h
  ·simp
  ·have:=hS.lt b h
   simp
   omega
 ·have:w.heap.size=g:=by simpa [Value.ownBlock] using hg
  omega
theorem o_bs {m:Nat} {ps:Array (Nat×Operand)} {us:List Value} {cells:Array Value} {zv:Value} {s:Nat} (ho:o.op= .buildSlice T m ps) (hu:P.underlying T=some (.slice e)) (hi:(P.info? e).map (fun i=>(i.zero,i.size))=some (some zv,s)) (hs:0<s) (hzs:zv.cells.size=s) (hm0:0<m)
  (hv:evs L (ps.toList.map (·.2))=some us) (hf:Instr.fill (fun i=>some (i*s,s)) ((Array.range (m*s)).map (zv.cells[· % zv.cells.size]!)) ((ps.toList.map (·.1)).zip us)=some cells) (hsmall:m*s<=16777216) (hS:St Wr w0 M0 w M) :
  OpC P o n L w (fun v w'=>∃ b,v= .slice (some ⟨b,0,none⟩) m m/\Bx M w' b cells.toList/\St Wr w0 M0 w' M/\Step M w M w'/\Below w.heap.size w w'):=fun act ha K Q hK=>by
 obtain ⟨inf,hinf,hzz⟩:=Option.map_eq_some_iff.1 hi
 simp only [Prod.mk.injEq] at hzz
 obtain ⟨hz0,hz1⟩:=hzz
 have hps:ps.toList.map (fun x=>(x.1,act.eval x.2))=(ps.toList.map (·.1)).zip us:=by
  rw [<- ha.evs hv]
  generalize ps.toList=l
  induction l with
  | nil=>rfl
  | cons p l ih=>obtain ⟨i,x⟩:=p;simp only [List.map_cons,List.zip_cons_cons,ih]
 have hn1: ¬ (16777216<m*s):=by omega
 have hn2: ¬ (m*s=0):=by have:=Nat.mul_pos hm0 hs;omega
 have hop:(execOp act.eval o).run P w= .ok (.value (.slice (some ⟨w.heap.size,0,none⟩) m m)) (w.alloc (.cells cells e)):=by
  simp only [execOp,ho,Instr.buildSlice,Sem.run_bind,run_underlying hu,Result.andThen_ok,sizeOf,typeInfo,run_program,hinf,Sem.run_pure,hz1,zeroValue,hz0]
  simp [hn1,hn2,hps,hf,newRow,hinf,hz0]
 unfold Oper.wp
 rw [hop]
 have hb:=below_alloc1 w (.cells cells e)
 exact hK _ _ ⟨_,rfl,⟨fun hm=>Nat.lt_irrefl _ (hS.lt _ hm),by simp,At.of_row (heap_alloc_new w _)⟩,hS.below hb,Step.below hb,hb⟩
theorem o_app {c:Call} {v:Value} {xs ys:List α} {cs:List Value} {b off cap bytes:Nat} {z0:Value} {m:Nat} (ho:o.op= .call c) (hc:c.callee= .builtin .append) (has:c.args= #[x,y]) (hat:c.argTypes= #[T,T]) (hu:P.underlying T=some (.slice e)) (hi:(P.info? e).map (fun i=>(i.zero,i.size,i.bytes))=some (some z0,a.sz,bytes)) (hz:z0.cells.size=a.sz) (hsz:0<a.sz)
  (hx:ev L x=some v) (hy:ev L y=some (.slice (some ⟨b,off,none⟩) m cap)) (hO:Own Wr M w a e v xs) (hcs:a.Cs M w ys cs) (hm:ys.length=m) (hAt:At w b off cs) (hbytes:(xs.length+m)*bytes<=140737488355328) (hb0:0<bytes) (hS:St Wr w0 M0 w M) (hWr:∀ b,w0.heap.size<=b->Wr b) :
  OpC P o n L w (fun v' w'=>∃ M',Own Wr M' w' a e v' (xs ++ ys)/\St Wr w0 M0 w' M'/\Step M w M' w'/\w.grownBy w' v.ownBlock/\(∀ b,M b->M' b)/\(v'.ownBlock=v.ownBlock\/∃ g,v'.ownBlock=some g/\w.heap.size<=g)):=fun act ha K Q hK=>by
 obtain ⟨inf,hinf,hzz⟩:=Option.map_eq_some_iff.1 hi
 simp only [Prod.mk.injEq] at hzz
 obtain ⟨hz0,hz1,hz2⟩:=hzz
 obtain ⟨hlo,os,h1,h2,h3⟩:=hO
 subst hm
 have hlen:xs.length+ys.length<=140737488355328:=Nat.le_trans (Nat.le_mul_of_pos_right _ hb0) hbytes
 obtain ⟨v',w',hr,hown,hg,_,hat'⟩:=run_append_own_at (P:=P) w 0 T o.type e inf z0 a.sz bytes hu hinf hz0 hz1 hz2 hz hsz v xs.length os h1 ⟨b,off,none⟩ ys.length cap cs hcs.len (fun j u hu=>by rw [add_lit];exact hAt j u hu) hcs.one (by simp only [maxLen];omega) hbytes (Nat.zero_le _)
 have hop:(execOp act.eval o).run P w= .ok (.value v') w':=by
  simp only [execOp,ho,resolve,hc,has,hat,invoke,builtin,Sem.run_bind,Sem.run_pure,Result.andThen_ok,List.map_toArray,List.map_cons,List.map_nil,ha.ev hx,ha.ev hy,hr]
 unfold Oper.wp
 rw [hop]
 let M':Nat->Prop:=fun b=>M b\/v'.ownBlock=some b
 have hst:Step M w M' w':=⟨hg.size,fun b hb hn=>hg.block b hb (fun e=>hn (h3 b e.symm).1),fun b hb=>hb.elim .inl (fun h=>by
  rcases hat' with h' | h'
  ·exact .inl (h3 b (h'.symm.trans h)).1
  ·rw [h'] at h;injection h with h;exact .inr (by omega))⟩
 refine hK _ _ ⟨M',⟨by simp;omega,os ++ cs,by rw [List.length_append];exact hown,(h2.to hst).app (hcs.to hst),fun g hg'=>⟨.inr hg',?_⟩⟩,⟨hS.eff.grown hg (fun b hb=>(h3 b hb).2),hS.step.trans hst,fun b h=>.inl (hS.inc b h),fun b h=>?_⟩,hst,hg,fun b h=>.inl h,?_⟩
 ·rcases hat' with h' | h'
  ·exact (h3 g (h'.symm.trans hg')).2
  ·rw [h'] at hg';injection hg' with hg';rw [<- hg'];exact hWr _ hS.eff.size
 ·rcases h with h | h
  ·exact Nat.lt_of_lt_of_le (hS.lt b h) hg.size
  ·exact own_lt hown b h
 ·rcases hat' with h' | h'
  ·exact .inl h'
  ·exact .inr ⟨_,h',Nat.le_refl _⟩
theorem o_ste {v u:Value} {xs:List α} {g off cap m:Nat} {i:Int} {y':α} (ho:o.op= .store T x y) (hx:ev L x=some (.pointer (some ⟨g,off,none⟩))) (hy:ev L y=some u) (hs:(P.info? T).map (·.size)=some a.sz) (hO:Own Wr M w a e v xs) (hv:v= .slice (some ⟨g,0,none⟩) m cap) (hoff:off=0+i.toNat*a.sz) (h0:0<=i) (h1:i<xs.length)
  (hr:a.R M w y' u.cells.toList) (hS:St Wr w0 M0 w M) :
  OpC P o n L w (fun _ w'=>Own Wr M w' a e v (xs.set i.toNat y')/\St Wr w0 M0 w' M/\Step M w M w'/\w.grownBy w' v.ownBlock):=fun act ha K Q hK=>by
 obtain ⟨inf,hinf,hz⟩:=Option.map_eq_some_iff.1 hs
 obtain ⟨hlo,cs,h2,h3,h4⟩:=hO
 have hi:i.toNat<xs.length:=by omega
 obtain ⟨pre,c,post,hcs,hp,hrc,hset⟩:=h3.at_ i.toNat hi
 rcases h2.2 with ⟨hv',hn⟩ | ⟨g',cap',cur,hv',_,hh,h5,h6,h7,h8⟩
 ·omega
 ·rw [hv'] at hv
  injection hv with hv1 hv2 hv3
  injection hv1 with hv1
  injection hv1 with hv1
  subst hv1
  have hul:u.cells.toList.length=a.sz:=a.len hr
  have hcl:c.length=a.sz:=a.len hrc
  have hlen:(i.toNat+1)*a.sz<=xs.length*a.sz:=Nat.mul_le_mul_right _ (by omega)
  have hcap:xs.length*a.sz<=cap'*a.sz:=Nat.mul_le_mul_right _ h5
  rw [Nat.add_mul,Nat.one_mul] at hlen
  have hst:=run_storeCells_at P g' off e u.cells.toList 0 cur w hh (by rw [hul,h7,hoff];omega) (a.one hr)
  have hop:(execOp act.eval o).run P w= .ok .skip (w.setRow g' (cur.toList.take (off+0) ++ u.cells.toList ++ cur.toList.drop (off+0+u.cells.toList.length)).toArray):=by
   simp only [execOp,ho,ha.ev hx,ha.ev hy,Instr.storeAt,Instr.sureAddr,Sem.run_bind,Sem.run_pure,Result.andThen_ok,storeVar,sizeOf,typeInfo,run_program,hinf,hz]
   have: ¬ (u.cells.size≠a.sz):=by simpa using hul
   simp only [this,if_false,hst,Result.andThen_ok]
  unfold Oper.wp
  rw [hop,Oper.upon_skip]
  have hg:=grown_setRow w g' (cur.toList.take (off+0) ++ u.cells.toList ++ cur.toList.drop (off+0+u.cells.toList.length)).toArray
  have hob:v.ownBlock=some g':=by rw [hv'];rfl
  have hstep:Step M w M (w.setRow g' (cur.toList.take (off+0) ++ u.cells.toList ++ cur.toList.drop (off+0+u.cells.toList.length)).toArray):=⟨hg.size,fun b hb hn=>hg.block b hb (fun e=>hn (by injection e with e;rw [e];exact (h4 g' hob).1)),fun _ h=>.inl h⟩
  refine hK _ _ ⟨⟨by simpa using hlo,pre ++ u.cells.toList ++ post,⟨?_,.inr ⟨g',cap',_,?_,Nat.zero_le _,setRow_heap w g' cur _ e (0,0) hh,?_,h6,?_,?_⟩⟩,hset M _ y' _ hstep (a.to hr hstep),h4⟩,⟨hS.eff.grown hg (fun b hb=>by injection hb with hb;rw [<- hb];exact (h4 g' hob).2),hS.step.trans hstep,hS.inc,fun b h=>Nat.lt_of_lt_of_le (hS.lt b h) hg.size⟩,hstep,by rw [hob];exact hg⟩
  ·have:=h2.1
   rw [hcs] at this
   simp only [List.length_append,hul,hcl,List.length_set] at this |-
   exact this
  ·rw [hv',List.length_set]
  ·simpa using h5
  ·simp only [List.size_toArray,List.length_append,List.length_take,List.length_drop,Array.length_toList,hul,h7,hoff]
   omega
  ·have hcur:cur.toList=pre ++ c ++ post ++ cur.toList.drop (xs.length*a.sz):=by rw [<- hcs,<- h8,List.take_append_drop]
   have e1:cur.toList.take (off+0)=pre:=by
    rw [hcur,hoff,Nat.zero_add,Nat.add_zero,<- hp,List.append_assoc,List.append_assoc]
    exact List.take_left' rfl
   have e2:cur.toList.drop (off+0+u.cells.toList.length)=post ++ cur.toList.drop (xs.length*a.sz):=by
    conv=>lhs;rw [hcur]
    rw [hoff,Nat.zero_add,Nat.add_zero,hul,<- hp,<- hcl,<- List.length_append,List.append_assoc (pre ++ c)]
    exact List.drop_left' rfl
   rw [e1,e2,List.length_set]
   rw [<- List.append_assoc]
   refine List.take_left' ?_
   have:=h2.1
   rw [hcs] at this
   simp only [List.length_append,hul,hcl] at this |-
   exact this
end
def RV (P:Program) (L:List (Nat×Value)) (w:World) (r:ResultVar) (v:Value):Prop:=match r with
 | .tmp t=>lk L t=some v
 | .cell t T=>∃ b cs d,lk L t=some (.pointer (some ⟨b,0,none⟩))/\P.underlying T=some d/\isAgg d=true/\(P.info? T).map (·.size)=some cs.length/\At w b 0 cs/\v= .agg cs.toArray
def resOne (tmps:Array Value):ResultVar->Sem Value
 | .tmp t=>pure (tmps.getD t undef)
 | .cell a t=>do loadVar t (<- asAddr (tmps.getD a undef))
section
variable {P:Program} {fn:Func} {R:Ending->World->Prop} {n:Nat} {L:List (Nat×Value)} {w:World} {v v1 v2 v3 v4:Value} {r r1 r2 r3 r4:ResultVar}
theorem RV.run (h:RV P L w r v) {a:Act} (ha:Fr n L a):(resOne a.tmps r).run P w= .ok v w:=by
 cases r with
 | tmp t=>
  have:=ha.get t v h
  simp [resOne,Array.getD_eq_getD_getElem?,this]
 | cell t T=>
  obtain ⟨b,cs,d,h1,h2,h3,h4,h5,rfl⟩:=h
  obtain ⟨inf,hi,hz⟩:=Option.map_eq_some_iff.1 h4
  have:=ha.get t _ h1
  have hl:(loadCells ⟨b,0,none⟩ cs.length).run P w= .ok cs.toArray w:=
   run_loadCells_list (P:=P) w ⟨b,0,none⟩ cs (fun j v hv=>by rw [add_lit];exact h5 j v hv)
  simp only [resOne,Array.getD_eq_getD_getElem?,this,Option.getD_some,asAddr,Sem.run_bind,Sem.run_pure,Result.andThen_ok,loadVar,isAgg_run h2,h3,if_true,sizeOf,typeInfo,run_program,hi,hz,hl]
theorem results_eq (tmps:Array Value):results fn tmps=(do let vs <- fn.results.mapM (resOne tmps);pure (if h:vs.size=1 then vs[0] else .tuple vs)):=rfl
theorem ret0 (hr:fn.results= #[]) (h:R (.returned (.tuple #[])) w):∀ a,Fr n L a->bodyPost P fn R .ret a w:=fun a ha=>⟨ha.defers,_,by rw [results_eq,hr];simp,h⟩
theorem ret1 (hr:fn.results= #[r]) (hv:RV P L w r v) (h:R (.returned v) w):∀ a,Fr n L a->bodyPost P fn R .ret a w:=fun a ha=>⟨ha.defers,v,by rw [results_eq,hr];simp [hv.run ha],h⟩
theorem ret2 (hr:fn.results= #[r1,r2]) (h1:RV P L w r1 v1) (h2:RV P L w r2 v2) (h:R (.returned (.tuple #[v1,v2])) w):∀ a,Fr n L a->bodyPost P fn R .ret a w:=fun a ha=>⟨ha.defers,_,by rw [results_eq,hr];simp [h1.run ha,h2.run ha],h⟩
theorem ret3 (hr:fn.results= #[r1,r2,r3]) (h1:RV P L w r1 v1) (h2:RV P L w r2 v2) (h3:RV P L w r3 v3) (h:R (.returned (.tuple #[v1,v2,v3])) w):∀ a,Fr n L a->bodyPost P fn R .ret a w:=fun a ha=>⟨ha.defers,_,by rw [results_eq,hr];simp [h1.run ha,h2.run ha,h3.run ha],h⟩
end
end Go.Proofs.Ytbjnmmgnonldnaa.E
