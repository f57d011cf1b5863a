/- The engine, part 9: borrowed rows; operations on what the call may write, of two sorts (new, or handed in); calls that write what is handed in. No program text. -/
import Derived.Test.YtbjnmmgnonldnaaKE8
import Derived.Laws.StructEq
set_option linter.unusedVariables false
set_option linter.unusedSimpArgs false
namespace Go.Proofs.Ytbjnmmgnonldnaa.E
open Go Go.RowKit
def Rn1 {α:Type} (Wr:Nat->Prop) (a:Kd α) (M:Nat->Prop) (w:World) (A:Option Addr) (xs:List α):Prop:=
 xs= []\/∃ b off cs,A=some ⟨b,off,none⟩/\¬ Wr b/\b<w.heap.size/\a.Cs M w xs cs/\At w b off cs
def Rn2 {α:Type} (Wr:Nat->Prop) (a:Kd α) (M:Nat->Prop) (w:World) (A:Option Addr) (xss:List (List α)):Prop:=
 xss= []\/∃ b off us,A=some ⟨b,off,none⟩/\¬ Wr b/\b<w.heap.size/\us.length=xss.length/\At w b off us/\
  ∀ i:Nat,i<xss.length->∃ A' c,us.getD i (.slice none 0 0)= .slice A' (xss.getD i []).length c/\(xss.getD i []).length<=c/\(xss.getD i []).length<=281474976710656/\Rn1 Wr a M w A' (xss.getD i [])
section
variable {α:Type} {a:Kd α} {Wr Wr' Wf M M' M0 C:Nat->Prop} {w w' w0:World} {e e1 e2:TypeId} {u v v':Value} {us:List Value} {A:Option Addr} {xs:List α} {xss:List (List α)}
theorem Rn1.re (h:Rn1 Wr a M w A xs) (hw:∀ b,b<w.heap.size->Wr' b->Wr b):Rn1 Wr' a M w A xs:=by
 rcases h with h | ⟨b,off,cs,h1,h2,h3,h4⟩
 ·exact .inl h
 ·exact .inr ⟨b,off,cs,h1,fun hb=>h2 (hw b h3 hb),h3,h4⟩
theorem Rn2.re (h:Rn2 Wr a M w A xss) (hw:∀ b,b<w.heap.size->Wr' b->Wr b):Rn2 Wr' a M w A xss:=by
 rcases h with h | ⟨b,off,us,h1,h2,h3,h4,h5,h6⟩
 ·exact .inl h
 ·exact .inr ⟨b,off,us,h1,fun hb=>h2 (hw b h3 hb),h3,h4,h5,fun i hi=>by
   obtain ⟨A',c,k1,k2,k3,k4⟩:=h6 i hi
   exact ⟨A',c,k1,k2,k3,k4.re hw⟩⟩
theorem Rd.rn1 (h:Rd a M w A xs):Rn1 M a M w A xs:=h
theorem Rd.rn2 (h:Rd (Kd.slice a) M w A xss):Rn2 M a M w A xss:=by
 rcases h with h | ⟨b,off,cs,h1,h2,h3,h4,h5⟩
 ·exact .inl h
 ·refine .inr ⟨b,off,cs,h1,h2,h3,?_,h5,?_⟩
  ·have:=h4.len;simpa [Kd.slice] using this
  ·clear h1 h5
   have key:∀ (xss:List (List α)) (cs:List Value),(Kd.slice a).Cs M w xss cs->∀ i:Nat,i<xss.length->∃ A' c,cs.getD i (.slice none 0 0)= .slice A' (xss.getD i []).length c/\(xss.getD i []).length<=c/\(xss.getD i []).length<=281474976710656/\Rn1 M a M w A' (xss.getD i []):=by
    intro xss cs hc
    induction hc with
    | nil=>intro i hi;simp at hi
    | cons hr _ ih=>
     obtain ⟨A',c,rfl,k1,k2,k3⟩:=hr
     intro i hi
     cases i with
     | zero=>exact ⟨A',c,rfl,k1,k2,k3⟩
     | succ i=>
      obtain ⟨A2,c2,j1,j2⟩:=ih i (by simpa using hi)
      exact ⟨A2,c2,by simpa using j1,by simpa using j2⟩
   exact key xss cs h4
theorem Own.rn1 (h:Own Wr M w a e v xs):∃ A c,v= .slice A xs.length c/\xs.length<=c/\xs.length<=281474976710656/\Rn1 (fun b=>¬ B1 v b) a M w A xs:=by
 obtain ⟨hl,cs,h2,h3,h4⟩:=h
 rcases h2.2 with ⟨hv,hz⟩ | ⟨g,cap,cur,rfl,hb,hh,h5,h6,h7,h8⟩
 ·have:xs= []:=List.eq_nil_of_length_eq_zero hz
  exact ⟨none,0,by rw [hv,hz],by omega,hl,.inl this⟩
 ·refine ⟨_,cap,rfl,h5,hl,.inr ⟨g,0,cs,rfl,fun hn=>hn rfl,(Array.getElem?_eq_some_iff.1 hh).1,h3,fun j u hu=>?_⟩⟩
  refine At.of_row hh j u ?_
  rw [<- h8] at hu
  rw [List.getElem?_take] at hu
  split at hu
  ·exact hu
  ·cases hu
theorem Rn1.gx [Inhabited α] (h:Rn1 Wr a M w A xs) {i:Int} (h0:0<=i) (h1:i<xs.length) :
  ∃ b off c,A=some ⟨b,off,none⟩/\b<w.heap.size/\¬ Wr b/\At w b (off+i.toNat*a.sz) c/\a.R M w (gi xs i) c/\c.length=a.sz:=by
 rcases h with rfl | ⟨b,off,cs,rfl,hm,hb,hc,ha⟩
 ·simp at h1;omega
 ·obtain ⟨pre,c,post,rfl,hp,hr,_⟩:=hc.at_ i.toNat (by omega)
  rw [gi_eq] at hr
  refine ⟨b,off,c,rfl,hb,hm,?_,hr,a.len hr⟩
  rw [<- hp]
  exact ha.part
theorem Rn2.gx (h:Rn2 Wr a M w A xss) {i:Int} (h0:0<=i) (h1:i<xss.length) :
  ∃ b off A' c,A=some ⟨b,off,none⟩/\b<w.heap.size/\¬ Wr b/\At w b (off+i.toNat*1) [.slice A' (gi xss i).length c]/\(gi xss i).length<=c/\(gi xss i).length<=281474976710656/\Rn1 Wr a M w A' (gi xss i):=by
 rcases h with rfl | ⟨b,off,us,rfl,hm,hb,hl,ha,hr⟩
 ·simp at h1;omega
 ·obtain ⟨A',c,k1,k2,k3,k4⟩:=hr i.toNat (by omega)
  refine ⟨b,off,A',c,rfl,hb,hm,fun j u hu=>?_,k2,k3,k4⟩
  cases j with
  | zero=>
   have hi:i.toNat<us.length:=by omega
   have hu':u= .slice A' (gi xss i).length c:=by simpa using hu.symm
   subst hu'
   refine ha (i.toNat*1+0) _ ?_ |> fun h=>by rw [<- Nat.add_assoc] at h;exact h
   rw [Nat.mul_one,Nat.add_zero,List.getElem?_eq_getElem hi]
   have:us.getD i.toNat (.slice none 0 0)=us[i.toNat]:=by rw [List.getD_eq_getElem?_getD,List.getElem?_eq_getElem hi];rfl
   rw [<- this,k1]
   rfl
  | succ j=>simp at hu
theorem At.eff {b off:Nat} {cs:List Value} (h:At w b off cs) (hl:b<w.heap.size) (hn: ¬ Wr b) (hS:St Wr w M0 w' M):At w' b off cs:=h.block (hS.eff.block b hl hn)
theorem Rn1.st (h:Rn1 Wr a M0 w0 A xs) (hS:St Wr w0 M0 w M):Rn1 Wr a M w A xs:=by
 rcases h with h | ⟨b,off,cs,h1,h2,h3,h4,h5⟩
 ·exact .inl h
 ·exact .inr ⟨b,off,cs,h1,h2,Nat.lt_of_lt_of_le h3 hS.eff.size,h4.to hS.step,h5.eff h3 h2 hS⟩
theorem Rn2.st (h:Rn2 Wr a M0 w0 A xss) (hS:St Wr w0 M0 w M):Rn2 Wr a M w A xss:=by
 rcases h with h | ⟨b,off,us,h1,h2,h3,h4,h5,h6⟩
 ·exact .inl h
 ·exact .inr ⟨b,off,us,h1,h2,Nat.lt_of_lt_of_le h3 hS.eff.size,h4,h5.eff h3 h2 hS,fun i hi=>by
   obtain ⟨A',c,k1,k2,k3,k4⟩:=h6 i hi
   exact ⟨A',c,k1,k2,k3,k4.st hS⟩⟩
theorem Bb.ge {m b:Nat} (h:m<=b):∀ x,Bb b x->m<=x:=fun x hx=>by rw [show x=b from hx];exact h
theorem St.io (hS:St Wr w0 M0 w M) (hE:St Wr' w M w' M') (hW:∀ b,b<w.heap.size->Wr' b->Wr b):St Wr w0 M0 w' M':=by
 refine ⟨⟨hE.eff.os.trans hS.eff.os,hE.eff.tape.trans hS.eff.tape,hE.eff.output.trans hS.eff.output,Nat.le_trans hS.eff.size hE.eff.size,fun b hb hn=>?_⟩,hS.step.trans hE.step,fun b hb=>hE.inc b (hS.inc b hb),hE.lt⟩
 have hl:b<w.heap.size:=Nat.lt_of_lt_of_le hb hS.eff.size
 exact (hE.eff.block b hl fun h=>hn (hW b hl h)).trans (hS.eff.block b hb hn)
theorem St.fresh (hE:St (fun b=>w.heap.size<=b) w M w' M'):Below w.heap.size w w':=hE.eff.out
end
section
variable {P:Program} {o:Oper} {n:Nat} {L:List (Nat×Value)} {w w0:World} {x y:Operand} {T e:TypeId} {Wr Wf M M0:Nat->Prop} {α:Type} {a:Kd α} {k:IntKind} {u v:Value} {b:Nat} {cs:Array Value}
theorem Own.wk {Wr':Nat->Prop} {xs:List α} (h:Own Wr M w a e v xs) (hw:∀ b,Wr b->Wr' b):Own Wr' M w a e v xs:=h.reW fun b hb=>hw b (h.inB b hb).2
theorem o_steW {xs:List α} {g off cap m:Nat} {i:Int} {y':α} (ho:o.op= .store T x y) (hx:ev L x=some (.pointer (some ⟨g,off,none⟩))) (hy:ev L y=some u) (hs:(P.info? T).map (·.size)=some a.sz) (hO:Own Wf M w a e v xs) (hW:∀ b,Wf b->Wr b) (hv:v= .slice (some ⟨g,0,none⟩) m cap) (hoff:off=0+i.toNat*a.sz) (h0:0<=i) (h1:i<xs.length)
  (hr:a.R M w y' u.cells.toList) (hS:St Wr w0 M0 w M) :
  OpC P o n L w (fun _ w'=>Own Wf M w' a e v (xs.set i.toNat y')/\St Wr w0 M0 w' M/\Step M w M w'/\w.grownBy w' v.ownBlock):=
 (o_ste ho hx hy hs (hO.wk hW) hv hoff h0 h1 hr hS).mono fun _ _ h=>⟨h.1.reW fun b hb=>(hO.inB b hb).2,h.2⟩
theorem o_appW {c:Call} {xs ys:List α} {A:Option Addr} {cap bytes:Nat} {z0:Value} {m:Nat} (ho:o.op= .call c) (hc:c.callee= .builtin .append) (has:c.args= #[x,y]) (hat:c.argTypes= #[T,T]) (hu:P.underlying T=some (.slice e)) (hi:(P.info? e).map (fun i=>(i.zero,i.size,i.bytes))=some (some z0,a.sz,bytes)) (hz:z0.cells.size=a.sz) (hsz:0<a.sz)
  (hx:ev L x=some v) (hy:ev L y=some (.slice A m cap)) (hO:Own Wf M w a e v xs) (hW:∀ b,Wf b->Wr b) (hF:∀ b,w0.heap.size<=b->Wf b) (hR:Rd a M w A ys) (hm:ys.length=m) (hbytes:(xs.length+m)*bytes<=140737488355328) (hb0:0<bytes) (hS:St Wr w0 M0 w M) :
  OpC P o n L w (fun v' w'=>∃ M',Own Wf M' w' a e v' (xs ++ ys)/\St Wr w0 M0 w' M'/\Step M w M' w'/\w.grownBy w' v.ownBlock/\(∀ b,M b->M' b)/\(v'.ownBlock=v.ownBlock\/∃ g,v'.ownBlock=some g/\w.heap.size<=g)):=
 (o_appR ho hc has hat hu hi hz hsz hx hy (hO.wk hW) hR hm hbytes hb0 hS (fun b hb=>hW b (hF b hb))).mono fun v' w' h=>by
  obtain ⟨M',h1,h2,h3,h4,h5,h6⟩:=h
  refine ⟨M',h1.reW fun b hb=>?_,h2,h3,h4,h5,h6⟩
  rcases B1.app h6 b hb with hb | hb
  ·exact (hO.inB b hb).2
  ·exact hF b (Nat.le_trans hS.eff.size hb)
theorem o_makeW {z0:Value} {bytes:Nat} {x0:α} {i j:Int} {k':IntKind} (ho:o.op= .makeSlice T x y) (hu:P.underlying T=some (.slice e)) (hi:(P.info? e).map (fun i=>(i.zero,i.size,i.bytes))=some (some z0,a.sz,bytes)) (hz:z0.cells.size=a.sz) (hx:ev L x=some (.int k i)) (hy:ev L y=some (.int k' j))
  (h0:0<=i) (hij:i<=j) (hb:j*bytes<=281474976710656) (hb0:0<bytes) (hr:∀ M w,a.R M w x0 z0.cells.toList) (hS:St Wr w0 M0 w M) (hW:∀ b,Wf b->Wr b) (hF:∀ b,w0.heap.size<=b->Wf b) :
  OpC P o n L w (fun v w'=>∃ M',Own Wf M' w' a e v (List.replicate i.toNat x0)/\St Wr w0 M0 w' M'/\Step M w M' w'/\Below w.heap.size w w'/\(∀ b,M b->M' b)/\(∀ g,v.ownBlock=some g->w.heap.size<=g)):=
 (o_makeI ho hu hi hz hx hy h0 hij hb hb0 hr hS (fun b hb=>hW b (hF b hb))).mono fun v w' h=>by
  obtain ⟨M',h1,h2,h3,h4,h5,h6⟩:=h
  exact ⟨M',h1.reW fun b hb=>hF b (Nat.le_trans hS.eff.size (h6 b hb)),h2,h3,h4,h5,h6⟩
theorem o_stpW {off:Nat} (ho:o.op= .store T x y) (hx:ev L x=some (.pointer (some ⟨b,off,none⟩))) (hy:ev L y=some u) (hs:(P.info? T).map (·.size)=some u.cells.size) (hl:off+u.cells.size<=cs.size) (h1:∀ z ∈ u.cells.toList,z.oneCell'=true)
  {T':TypeId} (hb:Mb Wf M w b T' cs) (hW:∀ b,Wf b->Wr b) (hS:St Wr w0 M0 w M):OpC P o n L w (fun _ w'=>Mb Wf M w' b T' (cs.toList.take off ++ u.cells.toList ++ cs.toList.drop (off+u.cells.toList.length)).toArray/\St Wr w0 M0 w' M/\Step M w M w'/\w.grownBy w' (some b)):=
 (o_stp ho hx hy hs hl h1 (hb.reW fun x hx=>hW x (hb.inB x hx).2) hS).mono fun _ _ h=>⟨h.1.reW fun x hx=>(hb.inB x hx).2,h.2⟩
theorem o_boxW (ho:o.op= .box T x) (hx:ev L x=some u) (hS:St Wr w0 M0 w M) (hW:∀ b,Wf b->Wr b) (hF:∀ b,w0.heap.size<=b->Wf b):OpC P o n L w (fun v w'=>∃ b M',v= .pointer (some ⟨b,0,none⟩)/\Mb Wf M' w' b T u.cells/\St Wr w0 M0 w' M'/\Step M w M' w'/\Below w.heap.size w w'/\(∀ c,M c->M' c)/\w.heap.size<=b):=
 (o_boxM ho hx hS (fun b hb=>hW b (hF b hb))).mono fun v w' h=>by
  obtain ⟨b,M',h0,h1,h2,h3,h4,h5,h6⟩:=h
  exact ⟨b,M',h0,h1.reW fun x hx=>by rw [show x=b from hx];exact hF b (Nat.le_trans hS.eff.size h6),h2,h3,h4,h5,h6⟩
theorem o_allocW {z:Value} (ho:o.op= .alloc T) (hz:(P.info? T).bind (·.zero)=some z) (hS:St Wr w0 M0 w M) (hW:∀ b,Wf b->Wr b) (hF:∀ b,w0.heap.size<=b->Wf b):OpC P o n L w (fun v w'=>∃ b M',v= .pointer (some ⟨b,0,none⟩)/\Mb Wf M' w' b T z.cells/\St Wr w0 M0 w' M'/\Step M w M' w'/\Below w.heap.size w w'/\(∀ c,M c->M' c)/\w.heap.size<=b):=
 (o_alloc' ho hz hS (fun b hb=>hW b (hF b hb))).mono fun v w' h=>by
  obtain ⟨b,M',h0,h1,h2,h3,h4,h5,h6⟩:=h
  exact ⟨b,M',h0,h1.reW fun x hx=>by rw [show x=b from hx];exact hF b (Nat.le_trans hS.eff.size h6),h2,h3,h4,h5,h6⟩
end
section
variable {w w':World} {X B K:Nat->Prop}
theorem Dis.io (h1:∀ b,X b->b<w.heap.size) (h2:Dis X B):Dis X (fun b=>w.heap.size<=b\/B b):=fun b hx hy=>hy.elim (fun h=>by have:=h1 b hx;omega) (h2 b hx)
theorem Dis.or {B':Nat->Prop} (h:Dis X B) (h':Dis X B'):Dis X (fun b=>B b\/B' b):=fun b hx hb=>hb.elim (h b hx) (h' b hx)
theorem Dis.nil1:Dis (B1 (.slice none 0 0)) X:=fun b h=>by simp [B1,Value.ownBlock] at h
theorem Dis.hadc {b lo hi:Nat} (h1:∀ x,X x->lo<=x) (h2:∀ x,X x->x<hi) (hn: ¬ (lo<=b/\b<hi)):Dis X (Bb b):=fun x hx hy=>by
 obtain rfl:=(show x=b from hy)
 exact hn ⟨h1 x hx,h2 x hx⟩
theorem absl {n b:Nat} {p:Prop} (hb:b<n) (h:n<=b):p:=by omega
end
theorem o_callE {P:Program} {o:Oper} {n:Nat} {L:List (Nat×Value)} {w:World} {c:Call} {f:FuncId} {xs:List Operand} {vs vs':List Value} {post:Value->World->Prop} (ho:o.op= .call c) (hc:c.callee= .value (.func f)) (has:c.args=xs.toArray) (hv:evs L xs=some vs) (hf:callable P f=true) (he:vs=vs')
  (h:Calls P f vs'.toArray w (fun e w'=>∃ v,e= .returned v/\post v w')):OpC P o n L w post:=o_call ho hc has hv hf (he ▸ h)
section
variable {α:Type} {a:Kd α} {Wr M M0 N:Nat->Prop} {w w0:World} {e e1 e2:TypeId} {v:Value} {us:List Value} {A:Option Addr} {xs:List α} {xss:List (List α)}
theorem Own.one (h:Own Wr M w a e v xs):v.oneCell'=true:=by obtain ⟨A,c,rfl,_⟩:=h.form;rfl
theorem Own.take (h:Own Wr M w a e v xs) {c:Nat} (hv:v= .slice A xs.length c) {j:Int} (h0:0<=j) (h1:j<=xs.length):Own Wr M w a e (.slice A (xs.take j.toNat).length c) (xs.take j.toNat):=by
 subst hv
 obtain ⟨hl,cs,h2,h3,h4⟩:=h
 have hlen:(xs.take j.toNat).length=j.toNat:=by rw [List.length_take];omega
 obtain ⟨pre,c0,post,hcs,hp,hc⟩:=h3.part 0 j.toNat (by omega)
 have hpre:pre= []:=List.eq_nil_of_length_eq_zero (by simpa using hp)
 subst hpre
 rw [List.drop_zero] at hc
 have hcl:c0.length=j.toNat*a.sz:=by have:=hc.len;rw [hlen] at this;exact this
 refine ⟨by rw [hlen];omega,c0,⟨by rw [hlen];exact hcl,?_⟩,hc,by cases A <;> exact h4⟩
 rcases h2.2 with ⟨hv,hn⟩ | ⟨g,cap,cur,hv,hb,hh,h5,h6,h7,h8⟩
 ·injection hv with q1 q2 q3
  subst q1
  have:j.toNat=0:=by omega
  exact .inl ⟨by rw [hlen,this,q3],by rw [hlen,this]⟩
 ·injection hv with q1 q2 q3
  subst q1
  subst q3
  refine .inr ⟨g,c,cur,rfl,hb,hh,by rw [hlen];omega,h6,h7,?_⟩
  rw [hlen]
  have:cur.toList.take (j.toNat*a.sz)=(cur.toList.take (xs.length*a.sz)).take (j.toNat*a.sz):=by
   rw [List.take_take,Nat.min_eq_left (Nat.mul_le_mul_right _ (by omega))]
  rw [this,h8,hcs,List.nil_append]
  exact List.take_left' hcl
end
section
variable {P:Program} {o:Oper} {n:Nat} {L:List (Nat×Value)} {w w0:World} {x y:Operand} {T e:TypeId} {Wr Wf M M0 N:Nat->Prop} {α:Type} {a:Kd α} {k:IntKind} {u v:Value}
theorem o_sltV {A:Option Addr} {m c:Nat} {j:Int} {hi:Operand} (ho:o.op= .slice T x none (some hi) none) (hu:P.underlying T=some (.slice e)) (hx:ev L x=some v) (hv:v= .slice A m c) (hhi:ev L hi=some (.int k j)) (hc:m<=c) (h0:0<=j) (h2:j<=m) {q s:Nat} (hq:q=j.toNat) (hs:(P.info? e).map (·.size)=some s) :
  OpV P o n L w (.slice A q c):=o_slt ho hu (hv ▸ hx) hhi hc h0 h2 hq hs
theorem o_appN {c:Call} {xs ys:List α} {A:Option Addr} {cap bytes:Nat} {z0:Value} {m:Nat} (ho:o.op= .call c) (hc:c.callee= .builtin .append) (has:c.args= #[x,y]) (hat:c.argTypes= #[T,T]) (hu:P.underlying T=some (.slice e)) (hi:(P.info? e).map (fun i=>(i.zero,i.size,i.bytes))=some (some z0,a.sz,bytes)) (hz:z0.cells.size=a.sz) (hsz:0<a.sz)
  (hx:ev L x=some v) (hO:Own Wf M w a e v xs) (hW:∀ b,Wf b->Wr b) (hF:∀ b,w0.heap.size<=b->Wf b) (hy:ev L y=some (.slice A m cap)) (hR:Rn1 N a M w A ys) (hm:ys.length=m) (hbytes:(xs.length+m)*bytes<=140737488355328) (hb0:0<bytes) (hS:St Wr w0 M0 w M) :
  OpC P o n L w (fun v' w'=>∃ M',Own Wf M' w' a e v' (xs ++ ys)/\St Wr w0 M0 w' M'/\Step M w M' w'/\w.grownBy w' v.ownBlock/\(∀ b,M b->M' b)/\(v'.ownBlock=v.ownBlock\/∃ g,v'.ownBlock=some g/\w.heap.size<=g)):=by
 rcases hR with rfl | ⟨b,off,cs,rfl,hn,hb,hcs,ha⟩
 ·exact o_appW ho hc has hat hu hi hz hsz hx hy hO hW hF (.inl rfl) hm hbytes hb0 hS
 ·exact (o_app ho hc has hat hu hi hz hsz hx hy (hO.wk hW) hcs hm ha hbytes hb0 hS (fun b hb=>hW b (hF b hb))).mono fun v' w' h=>by
   obtain ⟨M',h1,h2,h3,h4,h5,h6⟩:=h
   refine ⟨M',h1.reW fun b hb=>?_,h2,h3,h4,h5,h6⟩
   rcases B1.app h6 b hb with hb | hb
   ·exact (hO.inB b hb).2
   ·exact hF b (Nat.le_trans hS.eff.size hb)
end
section
variable {α:Type} {a:Kd α} {e:TypeId} {Wr Wf M M0:Nat->Prop} {w w' w0:World} {v:Value} {r:List α}
theorem OwnF.ownW (h:OwnF a e M w w' v r) (hS:St Wr w0 M0 w M) (hb:Below w.heap.size w w') (_hW:∀ b,Wf b->Wr b) (hF:∀ b,w0.heap.size<=b->Wf b):∃ M',Own Wf M' w' a e v r/\St Wr w0 M0 w' M'/\Step M w M' w'/\(∀ b,M b->M' b)/\(∀ g,v.ownBlock=some g->w.heap.size<=g):=by
 obtain ⟨M',hO,hs,hi,hl⟩:=h
 exact ⟨M',hO.wk (fun b hb=>hF b (Nat.le_trans hS.eff.size hb)),⟨hS.eff.below hb,hS.step.trans hs,fun b h=>hi b (hS.inc b h),hl⟩,hs,hi,fun g hg=>(hO.inB g hg).2⟩
end
section
variable {P:Program} {o:Oper} {n:Nat} {L:List (Nat×Value)} {w:World} {x:Operand} {T:TypeId}
end
section
variable {P:Program} {o:Oper} {n:Nat} {L:List (Nat×Value)} {w:World} {x y:Operand} {T T':TypeId} {v:Value}
theorem W.any_run {α:Type} {c:α->Prop} {β:Type} {k:α->W β} {q:β->Prop} (h:(W.bind (W.any c) k).run q) (a:α) (ha:c a):(k a).run q:=h a ha
theorem nil_test {α:Type} {a:Kd α} {N M:Nat->Prop} {A:Option Addr} {xs:List α} (h:Rn1 N a M w A xs):∃ b:Bool,A.isNone=b/\(b=true->xs= []):=⟨_,rfl,fun hb=>by
 rcases h with h | ⟨b,off,cs,rfl,_⟩
 ·exact h
 ·cases hb⟩
theorem o_nileB {A:Option Addr} {m c m' c':Nat} {e:TypeId} {b:Bool} (ho:o.op= .binOp .eql T x y T') (hu:P.underlying T=some (.slice e)) (hx:ev L x=some (.slice A m c)) (hy:ev L y=some (.slice none m' c')) (hb:A.isNone=b):OpV P o n L w (.bool b):=hb ▸ o_nile ho hu hx hy
theorem o_nc {A:Addr} (ho:o.op= .nilCheck x) (hx:ev L x=some (.pointer (some A))):OpV P o n L w (.pointer (some A)):=fun a ha=>by
 simp only [execOp,ho,ha.ev hx]
 rfl
end
section
variable {P:Program} {o:Oper} {n:Nat} {L:List (Nat×Value)} {w w0:World} {x y:Operand} {T e:TypeId} {k:IntKind} {Wr Wf M M0:Nat->Prop} {α:Type} {a:Kd α}
theorem o_bs0 {s:Nat} (ho:o.op= .buildSlice T 0 #[]) (hu:P.underlying T=some (.slice e)) (hi:(P.info? e).map (·.size)=some s) (hS:St Wr w0 M0 w M) (hW:∀ b,Wf b->Wr b) (hF:∀ b,w0.heap.size<=b->Wf b) :
  OpC P o n L w (fun v w'=>∃ M',Own Wf M' w' a e v []/\St Wr w0 M0 w' M'/\Step M w M' w'/\Below w.heap.size w w'/\(∀ b,M b->M' b)/\(∀ g,v.ownBlock=some g->w.heap.size<=g)):=fun act ha K Q hK=>by
 obtain ⟨inf,hinf,hz⟩:=Option.map_eq_some_iff.1 hi
 have hop:(execOp act.eval o).run P w= .ok (.value (.slice (some ⟨w.heap.size,0,none⟩) 0 0)) (w.alloc (.cells #[] e)):=by
  simp only [execOp,ho,Instr.buildSlice,Sem.run_bind,run_underlying hu,Result.andThen_ok,sizeOf,typeInfo,run_program,hinf,Sem.run_pure]
  simp [Instr.fill,newRow,show Array.range 0= #[] from rfl]
 unfold Oper.wp
 rw [hop]
 have hb:=below_alloc1 w (.cells #[] e)
 have hst:Step M w (ins M w.heap.size) (w.alloc (.cells #[] e)):=⟨hb.size,fun b h _=>hb.block b h,fun b h=>h.elim (fun e=>.inr (by omega)) .inl⟩
 have hg:∀ g,(Value.slice (some ⟨w.heap.size,0,none⟩) 0 0).ownBlock=some g->g=w.heap.size:=fun g hg=>by simpa [Value.ownBlock,eq_comm] using hg
 refine hK _ _ ⟨ins M w.heap.size,⟨by simp,[],⟨by simp,.inr ⟨w.heap.size,0,#[],rfl,Nat.zero_le _,heap_alloc_new w _,Nat.le_refl _,Nat.zero_le _,by simp,by simp⟩⟩,.nil,fun g hg'=>?_⟩,⟨hS.eff.below hb,hS.step.trans hst,fun b h=>.inr (hS.inc b h),fun b h=>?_⟩,hst,hb,fun b h=>.inr h,fun g hg'=>?_⟩
 ·have:=hg g hg'
  subst this
  exact ⟨.inl rfl,hF _ hS.eff.size⟩
 ·rcases h with rfl | h
  ·simp
  ·have:=hS.lt b h
   simp
   omega
 ·have:=hg g hg'
  omega
end
section
variable {P:Program} {o:Oper} {n:Nat} {L:List (Nat×Value)} {w w0:World} {x y:Operand} {T e:TypeId} {Wr Wf M M0:Nat->Prop} {α:Type} {a:Kd α} {u v:Value} {b:Nat} {cs:Array Value} {xs:List α}
theorem Own.cells1 (h:Own Wr M w a e v xs):v.cells= #[v]:=by obtain ⟨A,c,rfl,_⟩:=h.form;rfl
theorem o_stp1 {off:Nat} (ho:o.op= .store T x y) (hx:ev L x=some (.pointer (some ⟨b,off,none⟩))) (hy:ev L y=some u) (hu:u.cells= #[u]) (hs:(P.info? T).map (·.size)=some 1) (hl:off+1<=cs.size) (h1:u.oneCell'=true)
  {T':TypeId} (hb:Mb Wf M w b T' cs) (hW:∀ b,Wf b->Wr b) (hS:St Wr w0 M0 w M):OpC P o n L w (fun _ w'=>Mb Wf M w' b T' (cs.toList.take off ++ [u] ++ cs.toList.drop (off+1)).toArray/\St Wr w0 M0 w' M/\Step M w M w'/\w.grownBy w' (some b)):=by
 have:=o_stpW (n:=n) (off:=off) (cs:=cs) ho hx hy (by rw [hu];exact hs) (by rw [hu];exact hl) (by rw [hu];intro z hz;obtain rfl:=List.mem_singleton.1 hz;exact h1) hb hW hS
 rw [hu] at this
 exact this
end
section
variable {P:Program} {o:Oper} {n:Nat} {L:List (Nat×Value)} {w w0:World} {T e:TypeId} {Wr M M0:Nat->Prop} {u:Value}
end
theorem rt0n {P:Program} {fn:Func} {R:Ending->World->Prop} {n:Nat} {L:List (Nat×Value)} {w:World} {act:Act} (ha:Fr n L act) (hr:fn.results= #[]) (h:R (.returned (.tuple #[])) w):bodyPost P fn R .normal act w:=ret0 hr h act ha
section
variable {P:Program} {o:Oper} {n:Nat} {L:List (Nat×Value)} {w:World} {x y:Operand} {T e T':TypeId} {v:Value} {k:IntKind}
theorem o_eqS {xs ys:Array Value} {b:Bool} (ho:o.op= .binOp .eql T x y T') (hg:P.eqGuardType P.depth T=false) (hx:ev L x=some (.agg xs)) (hy:ev L y=some (.agg ys)) (he:(Op.equalIn 10000 T (.agg xs) (.agg ys)).run P w= .ok b w):OpV P o n L w (.bool b):=fun a ha=>by
 simp only [execOp,ho,ha.ev hx,ha.ev hy,Sem.run_bind]
 rw [run_eqGuard_agg w .eql T x y xs ys hg]
 simp only [Result.andThen_ok,run_eql_struct,he]
 rfl
end
theorem below_nil {w w':World} (h:w.grownBy w' (Value.ownBlock (.slice none 0 0))):Below w.heap.size w w':=⟨h.os,h.tape,h.output,h.size,fun b hb=>h.block b hb (by simp [Value.ownBlock])⟩
theorem on_n:∀ z ∈ ([]:List Value),z.oneCell'=true:=fun _ h=>by cases h
theorem on_c {c:Value} {l:List Value} (h:c.oneCell'=true) (k:∀ z ∈ l,z.oneCell'=true):∀ z ∈ c ::l,z.oneCell'=true:=fun z hz=>by
 rcases List.mem_cons.1 hz with rfl | hz
 ·exact h
 ·exact k z hz
end Go.Proofs.Ytbjnmmgnonldnaa.E
