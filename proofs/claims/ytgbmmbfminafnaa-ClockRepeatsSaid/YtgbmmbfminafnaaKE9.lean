/- The engine, part 9: borrowed rows; operations on what the call may write, of two sorts (new, or handed in); calls that write what is handed in. No program text. -/
import Derived.Test.YtgbmmbfminafnaaKE8
import Derived.Laws.StructEq
set_option linter.unusedVariables false
set_option linter.unusedSimpArgs false
namespace Go.Proofs.Ytgbmmbfminafnaa.E
open Go Go.RowKit
def Rn1 {α:Type} (Wr:Nat->Prop) (a:Kd α) (M:Nat->Prop) (w:World) (A:Option Addr) (xs:List α):Prop:=
 xs= []\/∃ b off cs,A=some ⟨b,off,none⟩/\¬ Wr b/\b<w.heap.size/\a.Cs M w xs cs/\At w b off cs
section
variable {α:Type} {a:Kd α} {Wr Wr' Wf M M' M0 C:Nat->Prop} {w w' w0:World} {e e1 e2:TypeId} {u v v':Value} {us:List Value} {A:Option Addr} {xs:List α} {xss:List (List α)}
theorem Rn1.re (h:Rn1 Wr a M w A xs) (hw:∀ b,b<w.heap.size->Wr' b->Wr b):Rn1 Wr' a M w A xs:=by
 rcases h with h | ⟨b,off,cs,h1,h2,h3,h4⟩
 ·exact .inl h
 ·exact .inr ⟨b,off,cs,h1,fun hb=>h2 (hw b h3 hb),h3,h4⟩
theorem Rd.rn1 (h:Rd a M w A xs):Rn1 M a M w A xs:=h
theorem Own.rn1 (h:Own Wr M w a e v xs):∃ A c,v= .slice A xs.length c/\xs.length<=c/\xs.length<=281474976710656/\Rn1 (fun b=>¬ B1 v b) a M w A xs:=by
 obtain ⟨hl,cs,h2,h3,h4⟩:=h
 rcases h2.2 with ⟨hv,hz⟩ | ⟨g,cap,cur,rfl,hb,hh,h5,h6,h7,h8⟩
 ·have:xs= []:=List.eq_nil_of_length_eq_zero hz
  exact ⟨none,0,by rw [hv,hz],by omega,hl,.inl this⟩
 ·refine ⟨_,cap,rfl,h5,hl,.inr ⟨g,0,cs,rfl,fun hn=>hn rfl,(Array.getElem?_eq_some_iff.1 hh).1,h3,fun j u hu=>?_⟩⟩
  refine At.of_row hh j u ?_
  rw [<- h8] at hu
  rw [List.getElem?_take] at hu
  split at hu
  ·exact hu
  ·cases hu
theorem Rn1.gx [Inhabited α] (h:Rn1 Wr a M w A xs) {i:Int} (h0:0<=i) (h1:i<xs.length) :
  ∃ b off c,A=some ⟨b,off,none⟩/\b<w.heap.size/\¬ Wr b/\At w b (off+i.toNat*a.sz) c/\a.R M w (gi xs i) c/\c.length=a.sz:=by
 rcases h with rfl | ⟨b,off,cs,rfl,hm,hb,hc,ha⟩
 ·simp at h1;omega
 ·obtain ⟨pre,c,post,rfl,hp,hr,_⟩:=hc.at_ i.toNat (by omega)
  rw [gi_eq] at hr
  refine ⟨b,off,c,rfl,hb,hm,?_,hr,a.len hr⟩
  rw [<- hp]
  exact ha.part
theorem At.eff {b off:Nat} {cs:List Value} (h:At w b off cs) (hl:b<w.heap.size) (hn: ¬ Wr b) (hS:St Wr w M0 w' M):At w' b off cs:=h.block (hS.eff.block b hl hn)
theorem Rn1.st (h:Rn1 Wr a M0 w0 A xs) (hS:St Wr w0 M0 w M):Rn1 Wr a M w A xs:=by
 rcases h with h | ⟨b,off,cs,h1,h2,h3,h4,h5⟩
 ·exact .inl h
 ·exact .inr ⟨b,off,cs,h1,h2,Nat.lt_of_lt_of_le h3 hS.eff.size,h4.to hS.step,h5.eff h3 h2 hS⟩
theorem Bb.ge {m b:Nat} (h:m<=b):∀ x,Bb b x->m<=x:=fun x hx=>by rw [show x=b from hx];exact h
theorem St.io (hS:St Wr w0 M0 w M) (hE:St Wr' w M w' M') (hW:∀ b,b<w.heap.size->Wr' b->Wr b):St Wr w0 M0 w' M':=by
 refine ⟨⟨hE.eff.os.trans hS.eff.os,hE.eff.tape.trans hS.eff.tape,hE.eff.output.trans hS.eff.output,Nat.le_trans hS.eff.size hE.eff.size,fun b hb hn=>?_⟩,hS.step.trans hE.step,fun b hb=>hE.inc b (hS.inc b hb),hE.lt⟩
 have hl:b<w.heap.size:=Nat.lt_of_lt_of_le hb hS.eff.size
 exact (hE.eff.block b hl fun h=>hn (hW b hl h)).trans (hS.eff.block b hb hn)
theorem St.fresh (hE:St (fun b=>w.heap.size<=b) w M w' M'):Below w.heap.size w w':=hE.eff.out
end
section
variable {P:Program} {o:Oper} {n:Nat} {L:List (Nat×Value)} {w w0:World} {x y:Operand} {T e:TypeId} {Wr Wf M M0:Nat->Prop} {α:Type} {a:Kd α} {k:IntKind} {u v:Value} {b:Nat} {cs:Array Value}
theorem Own.wk {Wr':Nat->Prop} {xs:List α} (h:Own Wr M w a e v xs) (hw:∀ b,Wr b->Wr' b):Own Wr' M w a e v xs:=h.reW fun b hb=>hw b (h.inB b hb).2
theorem o_steW {xs:List α} {g off cap m:Nat} {i:Int} {y':α} (ho:o.op= .store T x y) (hx:ev L x=some (.pointer (some ⟨g,off,none⟩))) (hy:ev L y=some u) (hs:(P.info? T).map (·.size)=some a.sz) (hO:Own Wf M w a e v xs) (hW:∀ b,Wf b->Wr b) (hv:v= .slice (some ⟨g,0,none⟩) m cap) (hoff:off=0+i.toNat*a.sz) (h0:0<=i) (h1:i<xs.length)
  (hr:a.R M w y' u.cells.toList) (hS:St Wr w0 M0 w M) :
  OpC P o n L w (fun _ w'=>Own Wf M w' a e v (xs.set i.toNat y')/\St Wr w0 M0 w' M/\Step M w M w'/\w.grownBy w' v.ownBlock):=
 (o_ste ho hx hy hs (hO.wk hW) hv hoff h0 h1 hr hS).mono fun _ _ h=>⟨h.1.reW fun b hb=>(hO.inB b hb).2,h.2⟩
theorem o_appW {c:Call} {xs ys:List α} {A:Option Addr} {cap bytes:Nat} {z0:Value} {m:Nat} (ho:o.op= .call c) (hc:c.callee= .builtin .append) (has:c.args= #[x,y]) (hat:c.argTypes= #[T,T]) (hu:P.underlying T=some (.slice e)) (hi:(P.info? e).map (fun i=>(i.zero,i.size,i.bytes))=some (some z0,a.sz,bytes)) (hz:z0.cells.size=a.sz) (hsz:0<a.sz)
  (hx:ev L x=some v) (hy:ev L y=some (.slice A m cap)) (hO:Own Wf M w a e v xs) (hW:∀ b,Wf b->Wr b) (hF:∀ b,w0.heap.size<=b->Wf b) (hR:Rd a M w A ys) (hm:ys.length=m) (hbytes:(xs.length+m)*bytes<=140737488355328) (hb0:0<bytes) (hS:St Wr w0 M0 w M) :
  OpC P o n L w (fun v' w'=>∃ M',Own Wf M' w' a e v' (xs ++ ys)/\St Wr w0 M0 w' M'/\Step M w M' w'/\w.grownBy w' v.ownBlock/\(∀ b,M b->M' b)/\(v'.ownBlock=v.ownBlock\/∃ g,v'.ownBlock=some g/\w.heap.size<=g)):=
 (o_appR ho hc has hat hu hi hz hsz hx hy (hO.wk hW) hR hm hbytes hb0 hS (fun b hb=>hW b (hF b hb))).mono fun v' w' h=>by
  obtain ⟨M',h1,h2,h3,h4,h5,h6⟩:=h
  refine ⟨M',h1.reW fun b hb=>?_,h2,h3,h4,h5,h6⟩
  rcases B1.app h6 b hb with hb | hb
  ·exact (hO.inB b hb).2
  ·exact hF b (Nat.le_trans hS.eff.size hb)
theorem o_makeW {z0:Value} {bytes:Nat} {x0:α} {i j:Int} {k':IntKind} (ho:o.op= .makeSlice T x y) (hu:P.underlying T=some (.slice e)) (hi:(P.info? e).map (fun i=>(i.zero,i.size,i.bytes))=some (some z0,a.sz,bytes)) (hz:z0.cells.size=a.sz) (hx:ev L x=some (.int k i)) (hy:ev L y=some (.int k' j))
  (h0:0<=i) (hij:i<=j) (hb:j*bytes<=281474976710656) (hb0:0<bytes) (hr:∀ M w,a.R M w x0 z0.cells.toList) (hS:St Wr w0 M0 w M) (hW:∀ b,Wf b->Wr b) (hF:∀ b,w0.heap.size<=b->Wf b) :
  OpC P o n L w (fun v w'=>∃ M',Own Wf M' w' a e v (List.replicate i.toNat x0)/\St Wr w0 M0 w' M'/\Step M w M' w'/\Below w.heap.size w w'/\(∀ b,M b->M' b)/\(∀ g,v.ownBlock=some g->w.heap.size<=g)):=
 (o_makeI ho hu hi hz hx hy h0 hij hb hb0 hr hS (fun b hb=>hW b (hF b hb))).mono fun v w' h=>by
  obtain ⟨M',h1,h2,h3,h4,h5,h6⟩:=h
  exact ⟨M',h1.reW fun b hb=>hF b (Nat.le_trans hS.eff.size (h6 b hb)),h2,h3,h4,h5,h6⟩
theorem o_stpW {off:Nat} (ho:o.op= .store T x y) (hx:ev L x=some (.pointer (some ⟨b,off,none⟩))) (hy:ev L y=some u) (hs:(P.info? T).map (·.size)=some u.cells.size) (hl:off+u.cells.size<=cs.size) (h1:∀ z ∈ u.cells.toList,z.oneCell'=true)
  {T':TypeId} (hb:Mb Wf M w b T' cs) (hW:∀ b,Wf b->Wr b) (hS:St Wr w0 M0 w M):OpC P o n L w (fun _ w'=>Mb Wf M w' b T' (cs.toList.take off ++ u.cells.toList ++ cs.toList.drop (off+u.cells.toList.length)).toArray/\St Wr w0 M0 w' M/\Step M w M w'/\w.grownBy w' (some b)):=
 (o_stp ho hx hy hs hl h1 (hb.reW fun x hx=>hW x (hb.inB x hx).2) hS).mono fun _ _ h=>⟨h.1.reW fun x hx=>(hb.inB x hx).2,h.2⟩
theorem o_boxW (ho:o.op= .box T x) (hx:ev L x=some u) (hS:St Wr w0 M0 w M) (hW:∀ b,Wf b->Wr b) (hF:∀ b,w0.heap.size<=b->Wf b):OpC P o n L w (fun v w'=>∃ b M',v= .pointer (some ⟨b,0,none⟩)/\Mb Wf M' w' b T u.cells/\St Wr w0 M0 w' M'/\Step M w M' w'/\Below w.heap.size w w'/\(∀ c,M c->M' c)/\w.heap.size<=b):=
 (o_boxM ho hx hS (fun b hb=>hW b (hF b hb))).mono fun v w' h=>by
  obtain ⟨b,M',h0,h1,h2,h3,h4,h5,h6⟩:=h
  exact ⟨b,M',h0,h1.reW fun x hx=>by rw [show x=b from hx];exact hF b (Nat.le_trans hS.eff.size h6),h2,h3,h4,h5,h6⟩
theorem o_allocW {z:Value} (ho:o.op= .alloc T) (hz:(P.info? T).bind (·.zero)=some z) (hS:St Wr w0 M0 w M) (hW:∀ b,Wf b->Wr b) (hF:∀ b,w0.heap.size<=b->Wf b):OpC P o n L w (fun v w'=>∃ b M',v= .pointer (some ⟨b,0,none⟩)/\Mb Wf M' w' b T z.cells/\St Wr w0 M0 w' M'/\Step M w M' w'/\Below w.heap.size w w'/\(∀ c,M c->M' c)/\w.heap.size<=b):=
 (o_alloc' ho hz hS (fun b hb=>hW b (hF b hb))).mono fun v w' h=>by
  obtain ⟨b,M',h0,h1,h2,h3,h4,h5,h6⟩:=h
  exact ⟨b,M',h0,h1.reW fun x hx=>by rw [show x=b from hx];exact hF b (Nat.le_trans hS.eff.size h6),h2,h3,h4,h5,h6⟩
end
section
variable {w w':World} {X B K:Nat->Prop}
theorem Dis.ge (h1:∀ b,X b->b<w.heap.size):Dis X (fun b=>w.heap.size<=b):=fun b hx hy=>by have:=h1 b hx;omega
theorem Dis.io (h1:∀ b,X b->b<w.heap.size) (h2:Dis X B):Dis X (fun b=>w.heap.size<=b\/B b):=fun b hx hy=>hy.elim (fun h=>by have:=h1 b hx;omega) (h2 b hx)
theorem Dis.out (h1:∀ b,X b->b<w.heap.size) (h2:Dis X B) (h3:∀ b,K b->w.heap.size<=b\/B b):Dis X K:=fun b hx hk=>Dis.io h1 h2 b hx (h3 b hk)
theorem Dis.or {B':Nat->Prop} (h:Dis X B) (h':Dis X B'):Dis X (fun b=>B b\/B' b):=fun b hx hb=>hb.elim (h b hx) (h' b hx)
theorem Dis.nil1:Dis (B1 (.slice none 0 0)) X:=fun b h=>by simp [B1,Value.ownBlock] at h
theorem Dis.nil2:Dis (B2 (.slice none 0 0) []) X:=fun b h=>by simp [B2,Value.ownBlock] at h
theorem Dis.hadc {b lo hi:Nat} (h1:∀ x,X x->lo<=x) (h2:∀ x,X x->x<hi) (hn: ¬ (lo<=b/\b<hi)):Dis X (Bb b):=fun x hx hy=>by
 obtain rfl:=(show x=b from hy)
 exact hn ⟨h1 x hx,h2 x hx⟩
theorem Dis.hadb {b c:Nat} (hn: ¬ b=c):Dis (Bb c) (Bb b):=fun x hx hy=>hn ((show x=b from hy).symm.trans hx)
theorem absl {n b:Nat} {p:Prop} (hb:b<n) (h:n<=b):p:=by omega
end
theorem o_callE {P:Program} {o:Oper} {n:Nat} {L:List (Nat×Value)} {w:World} {c:Call} {f:FuncId} {xs:List Operand} {vs vs':List Value} {post:Value->World->Prop} (ho:o.op= .call c) (hc:c.callee= .value (.func f)) (has:c.args=xs.toArray) (hv:evs L xs=some vs) (hf:callable P f=true) (he:vs=vs')
  (h:Calls P f vs'.toArray w (fun e w'=>∃ v,e= .returned v/\post v w')):OpC P o n L w post:=o_call ho hc has hv hf (he ▸ h)
section
variable {α:Type} {a:Kd α} {Wr M M0 N:Nat->Prop} {w w0:World} {e e1 e2:TypeId} {v:Value} {us:List Value} {A:Option Addr} {xs:List α} {xss:List (List α)}
theorem Own2.gx (h:Own2 Wr M w a e1 e2 v us xss) {i:Int} (h0:0<=i) (h1:i<xss.length):∃ g cap,v= .slice (some ⟨g,0,none⟩) xss.length cap/\g<w.heap.size/\At w g (0+i.toNat*1) [gv us i]:=by
 obtain ⟨g,cap,hv,hg,hc⟩:=h.addr h0 h1
 refine ⟨g,cap,hv,hg,fun j u hu=>?_⟩
 cases j with
 | zero=>simp only [List.getElem?_cons_zero,Option.some.injEq] at hu;subst hu;exact hc
 | succ j=>simp at hu
theorem Own2.subv (h:Own2 Wr M w a e1 e2 v us xss) {i:Int} (h0:0<=i) (h1:i<xss.length):∀ b,B1 (gv us i) b->B2 v us b:=fun b hb=>.inr ⟨_,getD_mem (by rw [h.fam.len];omega) _,hb⟩
theorem Own.one (h:Own Wr M w a e v xs):v.oneCell'=true:=by obtain ⟨A,c,rfl,_⟩:=h.form;rfl
theorem Own.take (h:Own Wr M w a e v xs) {c:Nat} (hv:v= .slice A xs.length c) {j:Int} (h0:0<=j) (h1:j<=xs.length):Own Wr M w a e (.slice A (xs.take j.toNat).length c) (xs.take j.toNat):=by
 subst hv
 obtain ⟨hl,cs,h2,h3,h4⟩:=h
 have hlen:(xs.take j.toNat).length=j.toNat:=by rw [List.length_take];omega
 obtain ⟨pre,c0,post,hcs,hp,hc⟩:=h3.part 0 j.toNat (by omega)
 have hpre:pre= []:=List.eq_nil_of_length_eq_zero (by simpa using hp)
 subst hpre
 rw [List.drop_zero] at hc
 have hcl:c0.length=j.toNat*a.sz:=by have:=hc.len;rw [hlen] at this;exact this
 refine ⟨by rw [hlen];omega,c0,⟨by rw [hlen];exact hcl,?_⟩,hc,by cases A <;> exact h4⟩
 rcases h2.2 with ⟨hv,hn⟩ | ⟨g,cap,cur,hv,hb,hh,h5,h6,h7,h8⟩
 ·injection hv with q1 q2 q3
  subst q1
  have:j.toNat=0:=by omega
  exact .inl ⟨by rw [hlen,this,q3],by rw [hlen,this]⟩
 ·injection hv with q1 q2 q3
  subst q1
  subst q3
  refine .inr ⟨g,c,cur,rfl,hb,hh,by rw [hlen];omega,h6,h7,?_⟩
  rw [hlen]
  have:cur.toList.take (j.toNat*a.sz)=(cur.toList.take (xs.length*a.sz)).take (j.toNat*a.sz):=by
   rw [List.take_take,Nat.min_eq_left (Nat.mul_le_mul_right _ (by omega))]
  rw [this,h8,hcs,List.nil_append]
  exact List.take_left' hcl
theorem Rn1.take (h:Rn1 N a M w A xs) (m:Nat):Rn1 N a M w A (xs.take m):=by
 rcases h with rfl | ⟨b,off,cs,rfl,hn,hb,hc,ha⟩
 ·exact .inl (by simp)
 ·obtain ⟨pre,c,post,rfl,hp,hr⟩:=hc.part 0 (min m xs.length) (by omega)
  have:pre= []:=List.eq_nil_of_length_eq_zero (by simpa using hp)
  subst this
  refine .inr ⟨b,off,c,rfl,hn,hb,?_,by simpa using ha.part⟩
  have e1:(xs.drop 0).take (min m xs.length)=xs.take m:=by rw [List.drop_zero,<- List.take_take,List.take_length]
  rwa [e1] at hr
end
section
variable {P:Program} {o:Oper} {n:Nat} {L:List (Nat×Value)} {w w0:World} {x y:Operand} {T e:TypeId} {Wr Wf M M0 N:Nat->Prop} {α:Type} {a:Kd α} {k:IntKind} {u v:Value}
theorem o_ev {x:Operand} {v u:Value} (h:v=u) (hx:ev L x=some v):ev L x=some u:=h ▸ hx
theorem o_sltV {A:Option Addr} {m c:Nat} {j:Int} {hi:Operand} (ho:o.op= .slice T x none (some hi) none) (hu:P.underlying T=some (.slice e)) (hx:ev L x=some v) (hv:v= .slice A m c) (hhi:ev L hi=some (.int k j)) (hc:m<=c) (h0:0<=j) (h2:j<=m) {q s:Nat} (hq:q=j.toNat) (hs:(P.info? e).map (·.size)=some s) :
  OpV P o n L w (.slice A q c):=o_slt ho hu (hv ▸ hx) hhi hc h0 h2 hq hs
theorem o_appN {c:Call} {xs ys:List α} {A:Option Addr} {cap bytes:Nat} {z0:Value} {m:Nat} (ho:o.op= .call c) (hc:c.callee= .builtin .append) (has:c.args= #[x,y]) (hat:c.argTypes= #[T,T]) (hu:P.underlying T=some (.slice e)) (hi:(P.info? e).map (fun i=>(i.zero,i.size,i.bytes))=some (some z0,a.sz,bytes)) (hz:z0.cells.size=a.sz) (hsz:0<a.sz)
  (hx:ev L x=some v) (hO:Own Wf M w a e v xs) (hW:∀ b,Wf b->Wr b) (hF:∀ b,w0.heap.size<=b->Wf b) (hy:ev L y=some (.slice A m cap)) (hR:Rn1 N a M w A ys) (hm:ys.length=m) (hbytes:(xs.length+m)*bytes<=140737488355328) (hb0:0<bytes) (hS:St Wr w0 M0 w M) :
  OpC P o n L w (fun v' w'=>∃ M',Own Wf M' w' a e v' (xs ++ ys)/\St Wr w0 M0 w' M'/\Step M w M' w'/\w.grownBy w' v.ownBlock/\(∀ b,M b->M' b)/\(v'.ownBlock=v.ownBlock\/∃ g,v'.ownBlock=some g/\w.heap.size<=g)):=by
 rcases hR with rfl | ⟨b,off,cs,rfl,hn,hb,hcs,ha⟩
 ·exact o_appW ho hc has hat hu hi hz hsz hx hy hO hW hF (.inl rfl) hm hbytes hb0 hS
 ·exact (o_app ho hc has hat hu hi hz hsz hx hy (hO.wk hW) hcs hm ha hbytes hb0 hS (fun b hb=>hW b (hF b hb))).mono fun v' w' h=>by
   obtain ⟨M',h1,h2,h3,h4,h5,h6⟩:=h
   refine ⟨M',h1.reW fun b hb=>?_,h2,h3,h4,h5,h6⟩
   rcases B1.app h6 b hb with hb | hb
   ·exact (hO.inB b hb).2
   ·exact hF b (Nat.le_trans hS.eff.size hb)
end
section
variable {α:Type} {a:Kd α} {e:TypeId} {Wr Wf M M0:Nat->Prop} {w w' w0:World} {v:Value} {r:List α}
theorem OwnF.ownW (h:OwnF a e M w w' v r) (hS:St Wr w0 M0 w M) (hb:Below w.heap.size w w') (_hW:∀ b,Wf b->Wr b) (hF:∀ b,w0.heap.size<=b->Wf b):∃ M',Own Wf M' w' a e v r/\St Wr w0 M0 w' M'/\Step M w M' w'/\(∀ b,M b->M' b)/\(∀ g,v.ownBlock=some g->w.heap.size<=g):=by
 obtain ⟨M',hO,hs,hi,hl⟩:=h
 exact ⟨M',hO.wk (fun b hb=>hF b (Nat.le_trans hS.eff.size hb)),⟨hS.eff.below hb,hS.step.trans hs,fun b h=>hi b (hS.inc b h),hl⟩,hs,hi,fun g hg=>(hO.inB g hg).2⟩
end
section
variable {P:Program} {o:Oper} {n:Nat} {L:List (Nat×Value)} {w:World} {x:Operand} {T:TypeId}
end
section
variable {P:Program} {o:Oper} {n:Nat} {L:List (Nat×Value)} {w:World} {x y:Operand} {T T':TypeId} {v:Value}
end
def bix (s:ByteArray) (i:Int):Int:=match s[i.toNat]? with
 | some b=>(b.toNat:Int)
 | none=>0
theorem bix_in (s:ByteArray) (i:Int):0<=bix s i/\bix s i<=255:=by
 unfold bix
 split
 ·rename_i b _;have:=b.toNat_lt;omega
 ·omega
section
variable {P:Program} {o:Oper} {n:Nat} {L:List (Nat×Value)} {w w0:World} {x y:Operand} {T e:TypeId} {k:IntKind} {Wr Wf M M0:Nat->Prop} {α:Type} {a:Kd α}
theorem o_ixs {s:ByteArray} {i:Int} (ho:o.op= .index T x y) (hu:P.underlying T=some .string) (hx:ev L x=some (.string s)) (hy:ev L y=some (.int k i)) (h0:0<=i) (h1:i<s.size):OpV P o n L w (.int .u8 (bix s i)):=fun a ha=>by
 have hi:i.toNat<s.size:=by omega
 have hs:s[i.toNat]? =some s[i.toNat]:=by simp [hi]
 simp only [execOp,ho,ha.ev hx,ha.ev hy,Instr.index,asIntOf,Sem.run_bind,Sem.run_pure,Result.andThen_ok,run_underlying hu,if_pos h0,hs,bix]
end
section
variable {P:Program} {o:Oper} {n:Nat} {L:List (Nat×Value)} {w w0:World} {x y:Operand} {T e:TypeId} {Wr Wf M M0:Nat->Prop} {α:Type} {a:Kd α} {u v:Value} {b:Nat} {cs:Array Value} {xs:List α}
theorem Own.cells1 (h:Own Wr M w a e v xs):v.cells= #[v]:=by obtain ⟨A,c,rfl,_⟩:=h.form;rfl
theorem o_stp1 {off:Nat} (ho:o.op= .store T x y) (hx:ev L x=some (.pointer (some ⟨b,off,none⟩))) (hy:ev L y=some u) (hu:u.cells= #[u]) (hs:(P.info? T).map (·.size)=some 1) (hl:off+1<=cs.size) (h1:u.oneCell'=true)
  {T':TypeId} (hb:Mb Wf M w b T' cs) (hW:∀ b,Wf b->Wr b) (hS:St Wr w0 M0 w M):OpC P o n L w (fun _ w'=>Mb Wf M w' b T' (cs.toList.take off ++ [u] ++ cs.toList.drop (off+1)).toArray/\St Wr w0 M0 w' M/\Step M w M w'/\w.grownBy w' (some b)):=by
 have:=o_stpW (n:=n) (off:=off) (cs:=cs) ho hx hy (by rw [hu];exact hs) (by rw [hu];exact hl) (by rw [hu];intro z hz;obtain rfl:=List.mem_singleton.1 hz;exact h1) hb hW hS
 rw [hu] at this
 exact this
end
section
variable {P:Program} {o:Oper} {n:Nat} {L:List (Nat×Value)} {w w0:World} {T e:TypeId} {Wr M M0:Nat->Prop} {u:Value}
theorem o_bs1 {x:Operand} {zv:Value} (ho:o.op= .buildSlice T 1 #[(0,x)]) (hu:P.underlying T=some (.slice e)) (hi:(P.info? e).map (fun i=>(i.zero,i.size))=some (some zv,1)) (hzs:zv.cells.size=1) (hx:ev L x=some u) (hc:u.cells= #[u]) (hS:St Wr w0 M0 w M) :
  OpC P o n L w (fun v w'=>∃ b,v= .slice (some ⟨b,0,none⟩) 1 1/\Bx M w' b [u]/\St Wr w0 M0 w' M/\Step M w M w'/\Below w.heap.size w w'):=by
 refine o_bs (us:=[u]) (cells:=#[u]) ho hu hi (by omega) hzs (by omega) (by simp [evs,hx]) ?_ (by omega) hS
 have hf:(Array.map (fun x=>zv.cells[x % zv.cells.size]!) (Array.range 1)).setIfInBounds 0 u= #[u]:=by
  apply Array.ext
  ·simp
  ·intro i h1 h2
   simp only [List.size_toArray,List.length_cons,List.length_nil] at h2
   obtain rfl:i=0:=by omega
   simp
 simp [Instr.fill,hc,hf]
end
theorem Own.valR {α:Type} {a:Kd α} {Wr M M':Nat->Prop} {w w':World} {e:TypeId} {v:Value} {xs:List α} (h:Own Wr M w a e v xs):Kd.val.R M' w' v v.cells.toList:=⟨by rw [Own.cells1 h],Own.one h⟩
theorem Own.form0 {α:Type} {a:Kd α} {Wr M:Nat->Prop} {w:World} {e:TypeId} {v:Value} {xs:List α} (h:Own Wr M w a e v xs) (h0:0<xs.length):∃ b m cap,v= .slice (some ⟨b,0,none⟩) m cap/\m<=cap/\m=xs.length:=by
 obtain ⟨_,cs,h,_⟩:=h
 rcases h.2 with ⟨h1,h2⟩ | ⟨g,cap,cur,h1,_,_,h2,_⟩
 ·omega
 ·exact ⟨g,_,cap,h1,h2,rfl⟩
theorem win_g {v:Value} {g b m c m' c':Nat} (h:v= .slice (some ⟨g,0,none⟩) m c) (h':v= .slice (some ⟨b,0,none⟩) m' c'):g=b:=by
 rw [h] at h'
 injection h' with h1
 injection h1 with h1
 injection h1
section
variable {P:Program} {o:Oper} {n:Nat} {L:List (Nat×Value)} {w:World} {x y:Operand} {T e T':TypeId} {v:Value} {k:IntKind}
theorem o_iaW {g b lo m c s:Nat} {i:Int} (ho:o.op= .indexAddr T x y) (hu:P.underlying T=some (.slice e)) (hs:(P.info? e).map (·.size)=some s) (hx:ev L x=some (.slice (some ⟨g,lo*s,none⟩) m c)) (hg:g=b) (hy:ev L y=some (.int k i)) (h0:0<=i) (h1:i<m) :
  OpV P o n L w (.pointer (some ⟨b,0+((lo:Int)+i).toNat*s,none⟩)):=by
 subst hg
 have:0+((lo:Int)+i).toNat*s=lo*s+i.toNat*s:=by
  rw [Nat.zero_add,<- Nat.add_mul]
  congr 1
  omega
 rw [this]
 exact o_ia ho hu hs hx hy h0 h1
theorem o_sldtV {b m c s:Nat} {i j:Int} {k':IntKind} {lo hi:Operand} (ho:o.op= .slice T x (some lo) (some hi) none) (hu:P.underlying T=some (.slice e)) (hs:(P.info? e).map (·.size)=some s) (hx:ev L x=some v) (hv:v= .slice (some ⟨b,0,none⟩) m c) (hlo:ev L lo=some (.int k i)) (hhi:ev L hi=some (.int k' j)) (hc:m<=c) (h0:0<=i) (h1:i<j) (h2:j<=m) :
  OpV P o n L w (.slice (some ⟨b,i.toNat*s,none⟩) (j - i).toNat (c - i.toNat)):=by
 have:=o_sldt (n:=n) (w:=w) ho hu hs (hv ▸ hx) hlo hhi hc h0 (Int.le_of_lt h1) h2 (q:=(j - i).toNat) (by omega)
 unfold slA at this
 rw [if_neg (by omega)] at this
 rw [Option.map_some,add_lit,Nat.zero_add] at this
 exact this
end
theorem below_nil {w w':World} (h:w.grownBy w' (Value.ownBlock (.slice none 0 0))):Below w.heap.size w w':=⟨h.os,h.tape,h.output,h.size,fun b hb=>h.block b hb (by simp [Value.ownBlock])⟩
theorem on_n:∀ z ∈ ([]:List Value),z.oneCell'=true:=fun _ h=>by cases h
theorem on_c {c:Value} {l:List Value} (h:c.oneCell'=true) (k:∀ z ∈ l,z.oneCell'=true):∀ z ∈ c ::l,z.oneCell'=true:=fun z hz=>by
 rcases List.mem_cons.1 hz with rfl | hz
 ·exact h
 ·exact k z hz
end Go.Proofs.Ytgbmmbfminafnaa.E
