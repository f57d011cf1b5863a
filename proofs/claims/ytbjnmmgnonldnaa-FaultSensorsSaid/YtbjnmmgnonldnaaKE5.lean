/- The engine, part 5: more operations; what a call gives back. No program text. -/
import Derived.Test.YtbjnmmgnonldnaaKE4
namespace Go.Proofs.Ytbjnmmgnonldnaa.E
open Go Go.RowKit
def gi {α:Type} [Inhabited α] (xs:List α) (i:Int):α:=xs.getD i.toNat default
theorem gi_eq {α : Type} [Inhabited α] {xs : List α} {i : Int} (h : i.toNat < xs.length) : xs[i.toNat]'h = gi xs i := by simp [gi, List.getD_eq_getElem?_getD, List.getElem?_eq_getElem h]
section
variable {P:Program} {Q:Exit->Act->World->Prop} {o:Oper} {n:Nat} {L:List (Nat×Value)} {w w0:World} {x y:Operand} {T e:TypeId} {Wr M M0:Nat->Prop}
theorem WC.yesb {c:Operand} {x y:Code} {b:Bool} (hc:ev L c=some (.bool b)) (hb:b=true) (h:WC P x Q n L w):WC P (.cond c x y) Q n L w:=WC.yes (hb ▸ hc) h
theorem WC.nob {c:Operand} {x y:Code} {b:Bool} (hc:ev L c=some (.bool b)) (hb:b=false) (h:WC P y Q n L w):WC P (.cond c x y) Q n L w:=WC.no (hb ▸ hc) h
theorem mapM_places (P:Program) (w:World):∀ (fs:List Field) (places:List (Nat×Nat)),fs.mapM (fun f=>(P.info? f.type).map (fun i=>(f.offset,i.size)))=some places->
  (fs.mapM (m:=Sem) fun f=>do pure (f.offset,<- sizeOf f.type)).run P w= .ok places w
 | [],places,h=>by simp at h;subst h;rfl
 | f ::fs,places,h=>by
  rw [List.mapM_cons] at h
  cases hi:P.info? f.type with
  | none=>simp [hi] at h
  | some i=>
   cases hr:fs.mapM (fun f=>(P.info? f.type).map (fun i=>(f.offset,i.size))) with
   | none=>rw [hi,hr] at h;simp at h
   | some ps=>
    rw [hi,hr] at h
    simp at h
    subst h
    have ih:=mapM_places P w fs ps hr
    rw [List.mapM_cons]
    simp only [Sem.run_bind,sizeOf,typeInfo,run_program,Result.andThen_ok,hi,Sem.run_pure] at ih |-
    rw [ih]
    rfl
theorem o_bd {ps:Array (Nat×Operand)} {fs:Array Field} {places:List (Nat×Nat)} {us:List Value} {z:Value} {cells:Array Value} (ho:o.op= .build T ps) (hu:P.underlying T=some (.struct fs)) (hz:(P.info? T).bind (·.zero)=some z) (hp:fs.toList.mapM (fun f=>(P.info? f.type).map (fun i=>(f.offset,i.size)))=some places)
  (hv:evs L (ps.toList.map (·.2))=some us) (hf:Instr.fill (fun i=>places.toArray[i]?) z.cells ((ps.toList.map (·.1)).zip us)=some cells):OpV P o n L w (.agg cells):=fun a ha=>by
 obtain ⟨inf,hi,hz⟩:=Option.bind_eq_some_iff.1 hz
 have hps:(ps.map fun (i,x)=>(i,a.eval x)).toList=(ps.toList.map (·.1)).zip us:=by
  rw [<- ha.evs hv]
  simp only [Array.toList_map]
  generalize ps.toList=l
  induction l with
  | nil=>rfl
  | cons p l ih=>obtain ⟨i,x⟩:=p;simp only [List.map_cons,List.zip_cons_cons,ih]
 have hm:(fs.mapM (m:=Sem) fun f=>do pure (f.offset,<- sizeOf f.type)).run P w= .ok places.toArray w:=by
  rw [Array.mapM_eq_mapM_toList]
  rw [Sem.run_map,mapM_places P w _ _ hp]
  rfl
 simp only [execOp,ho,Instr.build,Sem.run_bind,zeroValue,typeInfo,run_program,Result.andThen_ok,hi,hz,Sem.run_pure,run_underlying hu]
 rw [hm]
 simp only [Result.andThen_ok,hps,hf,Sem.run_pure]
theorem o_appR {α:Type} {a:Kd α} {c:Call} {v:Value} {xs ys:List α} {A:Option Addr} {cap bytes:Nat} {z0:Value} {m:Nat} (ho:o.op= .call c) (hc:c.callee= .builtin .append) (has:c.args= #[x,y]) (hat:c.argTypes= #[T,T]) (hu:P.underlying T=some (.slice e)) (hi:(P.info? e).map (fun i=>(i.zero,i.size,i.bytes))=some (some z0,a.sz,bytes)) (hz:z0.cells.size=a.sz) (hsz:0<a.sz)
  (hx:ev L x=some v) (hy:ev L y=some (.slice A m cap)) (hO:Own Wr M w a e v xs) (hR:Rd a M w A ys) (hm:ys.length=m) (hbytes:(xs.length+m)*bytes<=140737488355328) (hb0:0<bytes) (hS:St Wr w0 M0 w M) (hWr:∀ b,w0.heap.size<=b->Wr b) :
  OpC P o n L w (fun v' w'=>∃ M',Own Wr M' w' a e v' (xs ++ ys)/\St Wr w0 M0 w' M'/\Step M w M' w'/\w.grownBy w' v.ownBlock/\(∀ b,M b->M' b)/\(v'.ownBlock=v.ownBlock\/∃ g,v'.ownBlock=some g/\w.heap.size<=g)):=by
 rcases A with _ | ⟨b,off,sp⟩
 ·have hys:ys= []:=by
   rcases hR with h | ⟨b,off,cs,h,_⟩
   ·exact h
   ·cases h
  subst hys
  obtain rfl:m=0:=by simpa using hm.symm
  intro act ha K Q hK
  obtain ⟨inf,hinf,hzz⟩:=Option.map_eq_some_iff.1 hi
  simp only [Prod.mk.injEq] at hzz
  obtain ⟨hz0,hz1,hz2⟩:=hzz
  obtain ⟨A',c',rfl,hlc⟩:=hO.form
  have hr:(Builtin.append_ #[T,T] o.type #[.slice A' xs.length c',.slice none 0 cap]).run P w= .ok (.slice A' xs.length c') w:=by
   cases A' <;> simp [Builtin.append_,run_underlying hu,sizeOf,typeInfo,hinf,Builtin.lenOf,Builtin.firstCells,hlc,storeCells]
  have hop:(execOp act.eval o).run P w= .ok (.value (.slice A' xs.length c')) w:=by
   simp only [execOp,ho,resolve,hc,has,hat,invoke,builtin,Sem.run_bind,Sem.run_pure,Result.andThen_ok,List.map_toArray,List.map_cons,List.map_nil,ha.ev hx,ha.ev hy,hr]
  unfold Oper.wp
  rw [hop]
  exact hK _ _ ⟨M,by rw [List.append_nil];exact hO,hS,Step.refl _ _,World.grownBy.refl w _,fun _ h=>h,.inl rfl⟩
 ·rcases hR with rfl | ⟨b',off',cs,h,_,_,hcs,hAt⟩
  ·obtain rfl:m=0:=by simpa using hm.symm
   cases sp with
   | none=>exact o_app ho hc has hat hu hi hz hsz hx hy hO .nil rfl (fun j u hu=>by simp at hu) hbytes hb0 hS hWr
   | some s=>
    intro act ha K Q hK
    obtain ⟨inf,hinf,hzz⟩:=Option.map_eq_some_iff.1 hi
    simp only [Prod.mk.injEq] at hzz
    obtain ⟨hz0,hz1,hz2⟩:=hzz
    obtain ⟨A',c',rfl,hlc⟩:=hO.form
    have hr:(Builtin.append_ #[T,T] o.type #[.slice A' xs.length c',.slice (some ⟨b,off,some s⟩) 0 cap]).run P w= .ok (.slice A' xs.length c') w:=by
     cases A' <;> simp [Builtin.append_,run_underlying hu,sizeOf,typeInfo,hinf,Builtin.lenOf,Builtin.firstCells,hlc,storeCells,loadCells,loadCellsFrom]
    have hop:(execOp act.eval o).run P w= .ok (.value (.slice A' xs.length c')) w:=by
     simp only [execOp,ho,resolve,hc,has,hat,invoke,builtin,Sem.run_bind,Sem.run_pure,Result.andThen_ok,List.map_toArray,List.map_cons,List.map_nil,ha.ev hx,ha.ev hy,hr]
    unfold Oper.wp
    rw [hop]
    exact hK _ _ ⟨M,by rw [List.append_nil];exact hO,hS,Step.refl _ _,World.grownBy.refl w _,fun _ h=>h,.inl rfl⟩
  ·injection h with h
   injection h with h1 h2 h3
   subst h1;subst h2;subst h3
   exact o_app ho hc has hat hu hi hz hsz hx hy hO hcs hm hAt hbytes hb0 hS hWr
end
section
variable {P:Program} {ops:Array Oper} {Q:Exit->Act->World->Prop} {o:Oper} {n d:Nat} {L:List (Nat×Value)} {w w' w1 w2 w0:World} {v:Value} {x y:Operand} {T e:TypeId} {Wr M M0:Nat->Prop} {α:Type} {a:Kd α} {xs:List α} {k:IntKind} {S:World->Prop}
theorem At.hd {b off:Nat} {u:Value} {cs:List Value} (h:At w b off (u ::cs)):w.cell? ⟨b,off,none⟩ =some u:=h 0 u rfl
theorem Own.gx [Inhabited α] (h:Own Wr M w a e v xs) {i:Int} (h0:0<=i) (h1:i<xs.length) :
  ∃ g cap c,v= .slice (some ⟨g,0,none⟩) xs.length cap/\g<w.heap.size/\At w g (0+i.toNat*a.sz) c/\a.R M w (gi xs i) c/\c.length=a.sz:=by
 obtain ⟨g,cap,c,hv,hg,ha,hr⟩:=h.ix h0 h1
 rw [gi_eq] at hr
 exact ⟨g,cap,c,hv,hg,ha,hr,a.len hr⟩
theorem o_iaV {b off m c s:Nat} {i:Int} (ho:o.op= .indexAddr T x y) (hu:P.underlying T=some (.slice e)) (hs:(P.info? e).map (·.size)=some s) (hx:ev L x=some v) (hv:v= .slice (some ⟨b,off,none⟩) m c) (hy:ev L y=some (.int k i)) (h0:0<=i) (h1:i<m) :
  OpV P o n L w (.pointer (some ⟨b,off+i.toNat*s,none⟩)):=by subst hv;exact o_ia ho hu hs hx hy h0 h1
theorem o_iaA {b off m c s:Nat} {A:Option Addr} {i:Int} (ho:o.op= .indexAddr T x y) (hu:P.underlying T=some (.slice e)) (hs:(P.info? e).map (·.size)=some s) (hx:ev L x=some (.slice A m c)) (hA:A=some ⟨b,off,none⟩) (hy:ev L y=some (.int k i)) (h0:0<=i) (h1:i<m) :
  OpV P o n L w (.pointer (some ⟨b,off+i.toNat*s,none⟩)):=by subst hA;exact o_ia ho hu hs hx hy h0 h1
theorem o_lenV {c:Call} {A:Option Addr} {m cap:Nat} (ho:o.op= .call c) (hc:c.callee= .builtin .len) (has:c.args= #[x]) (hat:c.argTypes= #[T]) (hu:P.underlying T=some (.slice e)) (hx:ev L x=some v) (hv:v= .slice A m cap):OpV P o n L w (.int .i64 (m:Int)):=by subst hv;exact o_len ho hc has hat hu hx
theorem o_min {c:Call} {p q:Int} (ho:o.op= .call c) (hc:c.callee= .builtin .min) (has:c.args= #[x,y]) {d:TypeDesc} (_hu:P.underlying T=some d) (hx:ev L x=some (.int k p)) (hy:ev L y=some (.int k q)):OpV P o n L w (.int k (mn p q)):=fun a ha=>by
 simp only [execOp,ho,resolve,hc,has,List.map_toArray,List.map_cons,List.map_nil,ha.ev hx,ha.ev hy,invoke,builtin,Sem.run_bind,Sem.run_pure,Result.andThen_ok,Builtin.min_,List.foldlM_cons,List.foldlM_nil,Builtin.min2,mn]
theorem take_le {n m:Nat} (h:xs.length<=m):(xs.take n).length<=m:=by rw [List.length_take];omega
theorem Rd.take {A:Option Addr} (h:Rd a M w A xs) (m:Nat):Rd a M w A (xs.take m):=by
 rcases h with rfl | ⟨b,off,cs,rfl,hn,hb,hc,ha⟩
 ·exact .inl (by simp)
 ·obtain ⟨pre,c,post,rfl,hp,hr⟩:=hc.part 0 (min m xs.length) (by omega)
  have:pre= []:=List.eq_nil_of_length_eq_zero (by simpa using hp)
  subst this
  refine .inr ⟨b,off,c,rfl,hn,hb,?_,by simpa using ha.part⟩
  have e1:(xs.drop 0).take (min m xs.length)=xs.take m:=by rw [List.drop_zero,<- List.take_take,List.take_length]
  rwa [e1] at hr
def slA (A:Option Addr) (c:Nat) (i:Int) (s:Nat):Option Addr:=if c=i.toNat then A else A.map (·.add (i.toNat*s))
theorem Rd.sldt {A:Option Addr} {c:Nat} (h:Rd a M w A xs) (hc:xs.length<=c) {i j:Int} (h0:0<=i) (h1:i<=j) (h2:j<=xs.length):Rd a M w (slA A c i a.sz) ((xs.drop i.toNat).take (j - i).toNat):=by
 unfold slA
 rcases Int.lt_or_eq_of_le h1 with hlt | heq
 ·rw [if_neg (by omega)]
  exact h.part i.toNat (j - i).toNat (by omega) (by omega)
 ·exact .inl (List.eq_nil_of_length_eq_zero (by rw [List.length_take];omega))
theorem Rd.sld {A:Option Addr} {c:Nat} (h:Rd a M w A xs) (hc:xs.length<=c) {i:Int} (h0:0<=i) (h1:i<=xs.length):Rd a M w (slA A c i a.sz) (xs.drop i.toNat):=by
 have:=Rd.sldt h hc h0 h1 (Int.le_refl _)
 rwa [List.take_of_length_le (by rw [List.length_drop];omega)] at this
theorem o_slt {A:Option Addr} {m c:Nat} {j:Int} {hi:Operand} (ho:o.op= .slice T x none (some hi) none) (hu:P.underlying T=some (.slice e)) (hx:ev L x=some (.slice A m c)) (hhi:ev L hi=some (.int k j)) (hc:m<=c) (h0:0<=j) (h2:j<=m) {q s:Nat} (hq:q=j.toNat) (hs:(P.info? e).map (·.size)=some s) :
  OpV P o n L w (.slice A q c):=fun act ha=>by
 obtain ⟨inf,hinf,hz⟩:=Option.map_eq_some_iff.1 hs
 subst hq
 have b1:(Instr.sliceBound (.int k j) c .sliceAcap).run P w= .ok j.toNat w:=run_sliceBound w k j c _ h0 (by omega)
 simp only [execOp,ho,ha.ev hx,Option.map_some,ha.ev hhi,Instr.sliceAt,Option.map_none,Sem.run_bind,run_underlying hu,Result.andThen_ok,Instr.slice,Instr.sliceBounds,Sem.run_pure,b1,if_true,sizeOf,typeInfo,run_program,hinf,Nat.sub_zero,Nat.zero_mul]
 cases A <;> simp [Addr.add]
theorem o_sld {A:Option Addr} {m c s:Nat} {i:Int} {lo:Operand} (ho:o.op= .slice T x (some lo) none none) (hu:P.underlying T=some (.slice e)) (hs:(P.info? e).map (·.size)=some s) (hx:ev L x=some (.slice A m c)) (hlo:ev L lo=some (.int k i)) (_hc:m<=c) (h0:0<=i) (h1:i<=m) {q:Nat} (hq:q=m - i.toNat) :
  OpV P o n L w (.slice (slA A c i s) q (c - i.toNat)):=fun act ha=>by
 subst hq
 obtain ⟨inf,hinf,hz⟩:=Option.map_eq_some_iff.1 hs
 have b2:(Instr.sliceBound (.int k i) m .sliceB).run P w= .ok i.toNat w:=run_sliceBound w k i m _ h0 h1
 simp only [execOp,ho,ha.ev hx,Option.map_some,ha.ev hlo,Instr.sliceAt,Option.map_none,Sem.run_bind,run_underlying hu,Result.andThen_ok,Instr.slice,Instr.sliceBounds,Sem.run_pure,Option.isSome_none,Bool.false_eq_true,if_false,b2,sizeOf,typeInfo,run_program,hinf,hz,slA]
theorem RV.tmp {t:Tmp} (h:lk L t=some v):RV P L w (.tmp t) v:=h
theorem RV.cell {t:Tmp} {b:Nat} {d:TypeDesc} {cs:List Value} (h1:lk L t=some (.pointer (some ⟨b,0,none⟩))) (h2:P.underlying T=some d) (h3:isAgg d=true) (h4:(P.info? T).map (·.size)=some cs.length) (h5:At w b 0 cs):RV P L w (.cell t T) (.agg cs.toArray):=⟨b,cs,d,h1,h2,h3,h4,h5,rfl⟩
section
variable {fn:Func} {R:Ending->World->Prop} {v1 v2 v3 v4:Value} {r r1 r2 r3 r4:ResultVar} {act:Act} (ha:Fr n L act)
include ha
theorem rt0 (hr:fn.results= #[]) (h:R (.returned (.tuple #[])) w):bodyPost P fn R .ret act w:=ret0 hr h act ha
theorem rt1 (hr:fn.results= #[r]) (hv:RV P L w r v) (h:R (.returned v) w):bodyPost P fn R .ret act w:=ret1 hr hv h act ha
theorem rt2 (hr:fn.results= #[r1,r2]) (h1:RV P L w r1 v1) (h2:RV P L w r2 v2) (h:R (.returned (.tuple #[v1,v2])) w):bodyPost P fn R .ret act w:=ret2 hr h1 h2 h act ha
theorem rt3 (hr:fn.results= #[r1,r2,r3]) (h1:RV P L w r1 v1) (h2:RV P L w r2 v2) (h3:RV P L w r3 v3) (h:R (.returned (.tuple #[v1,v2,v3])) w):bodyPost P fn R .ret act w:=ret3 hr h1 h2 h3 h act ha
end
theorem l_tr {K:Act->World->Prop} {act:Act} (h:Q .ret act w):Exit.then K Q .ret act w:=h
theorem l_br {id:Nat} {act:Act} (h:Q .ret act w):Exit.inBlock id Q .ret act w:=h
theorem o_makeI {z0:Value} {bytes:Nat} {x0:α} {i j:Int} {k':IntKind} (ho:o.op= .makeSlice T x y) (hu:P.underlying T=some (.slice e)) (hi:(P.info? e).map (fun i=>(i.zero,i.size,i.bytes))=some (some z0,a.sz,bytes)) (hz:z0.cells.size=a.sz) (hx:ev L x=some (.int k i)) (hy:ev L y=some (.int k' j))
  (h0:0<=i) (hij:i<=j) (hb:j*bytes<=281474976710656) (hb0:0<bytes) (hr:∀ M w,a.R M w x0 z0.cells.toList) (hS:St Wr w0 M0 w M) (hWr:∀ b,w0.heap.size<=b->Wr b) :
  OpC P o n L w (fun v w'=>∃ M',Own Wr M' w' a e v (List.replicate i.toNat x0)/\St Wr w0 M0 w' M'/\Step M w M' w'/\Below w.heap.size w w'/\(∀ b,M b->M' b)/\(∀ g,v.ownBlock=some g->w.heap.size<=g)):=by
 obtain ⟨m,rfl⟩:=Int.eq_ofNat_of_zero_le h0
 obtain ⟨q,rfl⟩:=Int.eq_ofNat_of_zero_le (Int.le_trans h0 hij)
 have hb':q*bytes<=281474976710656:=by
  have:((q*bytes:Nat):Int)<=281474976710656:=by rw [Int.natCast_mul];exact hb
  omega
 exact o_make ho hu hi hz hx hy (by omega) hb' hb0 hr hS hWr
theorem len1 {c:List Value} (h:c.length=1):∃ u,c= [u]:=by match c,h with | [u],_=>exact ⟨u,rfl⟩
end
def OwnF {α:Type} (a:Kd α) (e:TypeId) (M:Nat->Prop) (w w':World) (v:Value) (r:List α):Prop:=
 ∃ M',Own (fun b=>w.heap.size<=b) M' w' a e v r/\Step M w M' w'/\(∀ b,M b->M' b)/\(∀ b,M' b->b<w'.heap.size)
section
variable {α:Type} {a:Kd α} {e:TypeId} {Wr M M0:Nat->Prop} {w w' w0:World} {v:Value} {r:List α}
theorem Own.len_le (h:Own Wr M w a e v r):r.length<=281474976710656:=h.1
theorem OwnF.rd (h:OwnF a e M w w' v r) (hM:∀ b,M b->b<w.heap.size):∃ A c,v= .slice A r.length c/\r.length<=c/\r.length<=281474976710656/\Rd a M w' A r/\(A=none->r= []):=by
 obtain ⟨M',hO,_,hi,_⟩:=h
 exact hO.rd hi fun g hg hm=>by
  obtain ⟨_,cs,_,_,h3⟩:=hO
  have:=(h3 g hg).2
  have:=hM g hm
  omega
theorem Own.outF (h:Own (fun b=>w0.heap.size<=b) M w a e v r) (hS:St (fun b=>w0.heap.size<=b) w0 M0 w M):OwnF a e M0 w0 w v r:=⟨M,h,hS.step,hS.inc,hS.lt⟩
end
end Go.Proofs.Ytbjnmmgnonldnaa.E
