/- Joined. -/
import Derived.Test.YtlmpoindlejefaaBE10
import Derived.Maps.Keyed
import Derived.Carry
set_option linter.unusedVariables false
namespace Go.Proofs.Ytlmpoindlejefaa.E
open Go Go.RowKit
section
variable {Wr Wr' Wf M M' M0 C:Nat->Prop} {w w' w0:World} {b:Nat} {f:Int->Bool}
variable {P:Program} {o:Oper} {n:Nat} {L:List (Nat×Value)} {T kt vt:TypeId} {x y z:Operand} {k:Int} {v:Bool}
end
end Go.Proofs.Ytlmpoindlejefaa.E
namespace Go.Proofs.Ytlmpoindlejefaa.E
open Go Go.RowKit
abbrev I6 (n:Int):Value:=.int .i64 n
theorem dT {p:Prop} [Decidable p] (h:p):decide p=true:=decide_eq_true h
theorem dF {p:Prop} [Decidable p] (h: ¬ p):decide p=false:=decide_eq_false h
theorem nB {a b:Nat} (h:Nat.ble a b=true):a<=b:=Nat.le_of_ble_eq_true h
theorem wB {α β:Type} {m:W α} {f:α->W β} {p:β->Prop} (h:(W.bind m f).run p):m.run fun a=>(f a).run p:=h
theorem wR {α:Type} {c:Prop} {m:W α} {p:α->Prop} (h:(W.req c m).run p):c/\m.run p:=h
theorem fA {n:Nat} {X:Nat->Prop} :∀ b,b<n->n<=b->X b:=fun _ hb h=>absl hb h
theorem fJ {p:Prop} (h:p):p:=h
theorem aR {w:World} {b:Nat} {cs:Array Value} {t:TypeId} {fr:Nat×Nat} (h:w.heap[b]? =some (.cells cs t fr)):At w b 0 cs.toList:=At.of_row h
theorem dS {A B:Nat->Prop} (h:Dis A B):Dis B A:=h.symm
theorem bq {α:Type} {c:Prop} {i:Decidable c} {a b:W α} {p:α->Prop} (H:(@ite _ c i a b).run p):c/\a.run p\/¬ c/\b.run p:=by
 by_cases h:c
 ·exact .inl ⟨h,by rwa [if_pos h] at H⟩
 ·exact .inr ⟨h,by rwa [if_neg h] at H⟩
theorem sa {k:IntKind} {x:Int} (h:InK k x:=by first | omega | (dsimp only;omega) | simp [InK]):InK k x:=h
theorem Step.t {M M' M'':Nat->Prop} {w w' w'':World} (h:Step M w M' w') (k:Step M' w' M'' w''):Step M w M'' w'':=Step.trans h k
theorem sB {Wr M0 M:Nat->Prop} {w0 w w':World} (h:St Wr w0 M0 w M) (k:Below w.heap.size w w'):St Wr w0 M0 w' M/\Step M w M w':=⟨h.below k,Step.below k⟩
section
variable {P:Program} {L:List (Nat×Value)} {w:World} {x:Tmp} {v:Value}
theorem rv (h:lk L x=some v):RV P L w (.tmp x) v:=RV.tmp h
end
end Go.Proofs.Ytlmpoindlejefaa.E
namespace Go.Proofs.Ytlmpoindlejefaa.E
open Go Go.RowKit
abbrev sn:Value:=.slice none 0 0
abbrev pq (b:Nat):Value:=.pointer (some ⟨b,0,none⟩)
theorem ixb {a b:Prop} (h:a) (e:a->b:=by first | exact fun h=>h | (intro h;(try simp only [List.length_set] at h |-);first | exact h | omega)):b:=e h
section
variable {P:Program} {ops:Array Oper} {Q:Exit->Act->World->Prop} {rest:List Oper} {n:Nat} {L:List (Nat×Value)} {w w0:World} {o o1 o2 o3:Oper} {d:Nat} {v u:Value} {x y z:Operand} {T T' e:TypeId} {k:IntKind} {t:TypeDesc} {Wf Wr M M0:Nat->Prop} {b:Nat} {cs:Array Value}
theorem xm (ho:o.op= .move x:=by rfl) (hx:ev L x=some v:=by rfl) (hw:wantB ops L o=some true:=by rfl) (hd:o.dst=some d:=by rfl) (hn:Nat.blt d n=true:=by rfl) (k:WL P ops Q rest n ((d,v) ::L) w):WL P ops Q (o ::rest) n L w:=va (o_mv ho hx) k hw hd hn
theorem xs (ho:o.op= .assign x:=by rfl) (hx:ev L x=some v:=by rfl) (hw:wantB ops L o=some true:=by rfl) (hd:o.dst=some d:=by rfl) (hn:Nat.blt d n=true:=by rfl) (k:WL P ops Q rest n ((d,v) ::L) w):WL P ops Q (o ::rest) n L w:=va (o_as ho hx) k hw hd hn
theorem xe {vs:Array Value} {i:Nat} (ho:o.op= .extract x i:=by rfl) (hx:ev L x=some (.tuple vs):=by rfl) (hv:vs[i]? =some v:=by rfl) (hw:wantB ops L o=some true:=by rfl) (hd:o.dst=some d:=by rfl) (hn:Nat.blt d n=true:=by rfl) (k:WL P ops Q rest n ((d,v) ::L) w):WL P ops Q (o ::rest) n L w:=va (o_ex ho hx hv) k hw hd hn
theorem xf (ho:o.op= .pick x y z:=by rfl) (hx:ev L x=some (.bool false):=by rfl) (hy:ev L z=some v:=by rfl) (hw:wantB ops L o=some true:=by rfl) (hd:o.dst=some d:=by rfl) (hn:Nat.blt d n=true:=by rfl) (k:WL P ops Q rest n ((d,v) ::L) w):WL P ops Q (o ::rest) n L w:=va (o_pkf ho hx hy) k hw hd hn
theorem xw (h1:wantB ops L o1=some false:=by rfl) (n1:fits o1.dst n=true:=by rfl) (h2:wantB ops (putL o1.dst undef L) o2=some false:=by rfl) (n2:fits o2.dst n=true:=by rfl) (h3:wantB ops (putL o2.dst undef (putL o1.dst undef L)) o3=some false:=by rfl) (n3:fits o3.dst n=true:=by rfl) (k:WL P ops Q rest n (putL o3.dst undef (putL o2.dst undef (putL o1.dst undef L))) w):WL P ops Q (o1 ::o2 ::o3 ::rest) n L w:=xo h1 n1 (xo h2 n2 (xo h3 n3 k))
theorem la {b off:Nat} (hu:P.underlying T=some t) (hc:w.cell? ⟨b,off,none⟩ =some v) (ho:o.op= .load T x:=by rfl) (hd:isAgg t=false:=by rfl) (hx:ev L x=some (.pointer (some ⟨b,off,none⟩)):=by rfl):OpV P o n L w v:=o_ld1 ho hu hd hx hc
theorem ln {b off:Nat} {cs:List Value} (hu:P.underlying T=some t) (hs:(P.info? T).map (·.size)=some cs.length) (hc:At w b off cs) (ho:o.op= .load T x:=by rfl) (hd:isAgg t=true:=by rfl) (hx:ev L x=some (.pointer (some ⟨b,off,none⟩)):=by rfl):OpV P o n L w (.agg cs.toArray):=o_ldn ho hu hd hs hx hc
theorem fa_ {i b off s:Nat} {fs:Array Field} {f:Field} (hu:P.underlying T=some (.struct fs)) (hs:(P.info? T').map (·.size)=some (s+1)) (ho:o.op= .fieldAddr T x i:=by rfl) (hf:fs[i]? =some f:=by rfl) (hx:ev L x=some (.pointer (some ⟨b,off,none⟩)):=by rfl) (ht:f.type=T':=by rfl):OpV P o n L w (.pointer (some ⟨b,off+f.offset,none⟩)):=o_fa ho hu hf (ht ▸ hs) hx
theorem iA {b off m c s:Nat} {A:Option Addr} {i:Int} (hu:P.underlying T=some (.slice e)) (hs:(P.info? e).map (·.size)=some s) (hA:A=some ⟨b,off,none⟩) (h:0<=i/\i<m) (ho:o.op= .indexAddr T x y:=by rfl) (hx:ev L x=some (.slice A m c):=by rfl) (hy:ev L y=some (.int k i):=by rfl):OpV P o n L w (.pointer (some ⟨b,off+i.toNat*s,none⟩)):=o_iaA ho hu hs hx hA hy h.1 h.2
theorem iV {b off m c s:Nat} {i:Int} (hu:P.underlying T=some (.slice e)) (hs:(P.info? e).map (·.size)=some s) (hv:v= .slice (some ⟨b,off,none⟩) m c) (h:0<=i/\i<m) (ho:o.op= .indexAddr T x y:=by rfl) (hx:ev L x=some v:=by rfl) (hy:ev L y=some (.int k i):=by rfl):OpV P o n L w (.pointer (some ⟨b,off+i.toNat*s,none⟩)):=o_iaV ho hu hs hx hv hy h.1 h.2
theorem stp {off:Nat} (ho:o.op= .store T x y) (hx:ev L x=some (.pointer (some ⟨b,off,none⟩))) (hy:ev L y=some u) (hs:(P.info? T).map (·.size)=some u.cells.size) {T':TypeId} (h1:∀ z ∈ u.cells.toList,z.oneCell'=true) (hb:Mb Wf M w b T' cs) (hW:∀ b,Wf b->Wr b) (hS:St Wr w0 M0 w M) (hl:off+u.cells.size<=cs.size:=by exact nB rfl):OpC P o n L w (fun _ w'=>Mb Wf M w' b T' (cs.toList.take off ++ u.cells.toList ++ cs.toList.drop (off+u.cells.toList.length)).toArray/\St Wr w0 M0 w' M/\Step M w M w'/\w.grownBy w' (some b)):=zIo ho hx hy hs hl h1 hb hW hS
end
end Go.Proofs.Ytlmpoindlejefaa.E
namespace Go.Proofs.Ytlmpoindlejefaa.E
open Go Go.RowKit
section
variable {P:Program} {o:Oper} {n:Nat} {L:List (Nat×Value)} {w:World} {x y:Operand} {T e:TypeId} {k k':IntKind} {Wr M:Nat->Prop} {α:Type} {a:Kd α}
theorem a_make {z0:Value} {bytes s:Nat} {i:Int} (ho:o.op= .makeSlice T x y) (hu:P.underlying T=some (.slice e)) (hi:(P.info? e).map (fun i=>(i.zero,i.size,i.bytes))=some (some z0,s,bytes)) (hx:ev L x=some (.int k i)) (hy:ev L y=some (.int k' i)) (h0:0<=i) (hb:i*bytes<=281474976710656) (hb0:0<bytes) :
  OpA P o n L (.cells (madeCells z0.cells (i.toNat*s)) e) (fun b=>.slice (some ⟨b,0,none⟩) i.toNat i.toNat):=fun act w ha=>by
 obtain ⟨c,rfl⟩:=Int.eq_ofNat_of_zero_le h0
 obtain ⟨inf,hinf,hzz⟩:=Option.map_eq_some_iff.1 hi
 simp only [Prod.mk.injEq] at hzz
 obtain ⟨hz0,hz1,hz2⟩:=hzz
 have hb':c*bytes<=281474976710656:=by
  have:((c*bytes:Nat):Int)<=281474976710656:=by rw [Int.natCast_mul];exact hb
  omega
 have hc63:c<=281474976710656:=Nat.le_trans (Nat.le_mul_of_pos_right _ hb0) hb'
 have hbi:(inf.bytes:Int)*(c:Int)<=281474976710656:=by
  rw [hz2,Int.mul_comm,<- Int.natCast_mul]
  omega
 have hr:=run_make (P:=P) w T e inf z0 hu hinf hz0 k k' (c:Int) (c:Int) (by omega) (by omega) hbi (by omega)
 rw [hz1] at hr
 simp only [Int.toNat_natCast] at hr |-
 simp only [execOp,ho,ha.ev hx,ha.ev hy,Sem.run_bind,hr,Result.andThen_ok]
 rfl
theorem Own.late {z0:Value} {x0:α} {b m:Nat} (hr:w.heap[b]? =some (.cells (madeCells z0.cells (m*a.sz)) e (0,0))) (hM:M b) (hW:Wr b) (hz:z0.cells.size=a.sz) (hm:m<=281474976710656) (h0:∀ M w,a.R M w x0 z0.cells.toList):Own Wr M w a e (.slice (some ⟨b,0,none⟩) m m) (List.replicate m x0):=by
 refine ⟨by simpa using hm,(List.replicate m z0.cells.toList).flatten,⟨?_,.inr ⟨b,m,madeCells z0.cells (m*a.sz),?_,Nat.zero_le _,hr,?_,?_,?_,?_⟩⟩,Cs.zeros (h0 _ _) m,fun g hg=>?_⟩
 ·simp [List.length_flatten,hz]
 ·simp
 ·simp
 ·simp only [maxLen];omega
 ·simp [size_madeCells]
 ·rw [zGI z0 m a.sz hz]
  exact List.take_of_length_le (by simp [List.length_flatten,hz])
 ·have:b=g:=by simpa [Value.ownBlock] using hg
  subst this
  exact ⟨hM,hW⟩
theorem Own.vv {v v':Value} {xs:List α} (hv:v=v') (h:Own Wr M w a e v xs):Own Wr M w a e v' xs:=hv ▸ h
theorem B1.sg {b m c:Nat} :∀ x,B1 (.slice (some ⟨b,0,none⟩) m c) x->x=b:=fun x h=>by
 have:b=x:=by simpa [B1,Value.ownBlock] using h
 exact this.symm
theorem B1.sgv {b m c:Nat} {v:Value} (hv: .slice (some ⟨b,0,none⟩) m c=v):∀ x,B1 v x->x=b:=by subst hv;exact B1.sg
end
section
variable {Wr M M1:Nat->Prop} {w w1 w2:World} {α:Type} {a:Kd α} {e1 e2:TypeId} {v u:Value} {us:List Value} {xss:List (List α)} {i:Int}
theorem Own2.outA (h:Own2 Wr M w a e1 e2 v us xss) (h0:0<=i) (h1:i<xss.length) (hg:w.grownBy w1 (gv us i).ownBlock) (hs:Step M w M1 w1) (hi:∀ b,M b->M1 b):Own Wr M1 w1 Kd.val e1 v us:=h.out.keptC (Chg.b1 hg) (h.djo _ (zCE (by rw [h.fam.len];omega) _)) hs hi
theorem B2.setA (h:Own2 Wr M w a e1 e2 v us xss) (h0:0<=i) (h1:i<xss.length) (hn:u.ownBlock=(gv us i).ownBlock\/∃ g,u.ownBlock=some g/\w.heap.size<=g):∀ b,B2 v (us.set i.toNat u) b->B2 v us b\/w.heap.size<=b:=fun b hb=>by
 rcases B2.set b hb with k | k
 ·exact .inl k
 ·rcases B1.app hn b k with k | k
  ·exact .inl (.inr ⟨_,zCE (by rw [h.fam.len];omega) _,k⟩)
  ·exact .inr k
theorem Own2.setApp (h:Own2 Wr M w a e1 e2 v us xss) (h0:0<=i) (h1:i<xss.length) {ys:List α} (hA:Own Wr M1 w1 a e2 u ys) (hg:w.grownBy w1 (gv us i).ownBlock) (hs:Step M w M1 w1) (hm:∀ b,M b->M1 b) (hn:u.ownBlock=(gv us i).ownBlock\/∃ g,u.ownBlock=some g/\w.heap.size<=g)
  (ho:Own Wr M1 w2 Kd.val e1 v (us.set i.toNat u)) (hg2:w1.grownBy w2 v.ownBlock) (hs2:Step M1 w1 M1 w2):Own2 Wr M1 w2 a e1 e2 v (us.set i.toNat u) (xss.set i.toNat ys):=by
 have hi:i.toNat<xss.length:=by omega
 have hiu:i.toNat<us.length:=by rw [h.fam.len];exact hi
 have hdu:∀ j,j<us.length->j≠i.toNat->Dis (B1 u) (B1 (us.getD j (.slice none 0 0))):=fun j hj hne b hb hb'=>by
  rcases B1.app hn b hb with k | k
  ·exact h.fam.dj i.toNat j hiu hj (Ne.symm hne) b k hb'
  ·have:=(h.fam.row j (by rw [<- h.fam.len];exact hj)).ltB b hb';omega
 have hdv:Dis (B1 v) (B1 u):=fun b hb hb'=>by
  rcases B1.app hn b hb' with k | k
  ·exact h.djo _ (zCE hiu _) b hb k
  ·have:=h.out.ltB b hb;omega
 refine ⟨ho,⟨by simp [h.fam.len],fun j hj=>?_,fun j k hj hk hne=>?_⟩,fun x hx=>?_⟩
 ·rw [List.length_set] at hj
  rw [zBe hi,zBe hiu]
  by_cases e:j=i.toNat
  ·rw [if_pos e,if_pos e];exact hA.keptC (Chg.b1 hg2) hdv.symm hs2 (fun _ h=>h)
  ·rw [if_neg e,if_neg e]
   exact ((h.fam.row j hj).keptC (Chg.b1 hg) (h.fam.dj j i.toNat (by rw [h.fam.len];exact hj) hiu e) hs hm).keptC (Chg.b1 hg2) (h.djo _ (zCE (by rw [h.fam.len];exact hj) _)).symm hs2 (fun _ h=>h)
 ·rw [List.length_set] at hj hk
  rw [zBe hiu,zBe hiu]
  by_cases e:j=i.toNat
  ·rw [if_pos e,if_neg fun e'=>hne (e.trans e'.symm)];exact hdu k hk (fun e'=>hne (e.trans e'.symm))
  ·rw [if_neg e]
   by_cases e':k=i.toNat
   ·rw [if_pos e'];exact (hdu j hj e).symm
   ·rw [if_neg e'];exact h.fam.dj j k hj hk hne
 ·rcases List.mem_or_eq_of_mem_set hx with hx | rfl
  ·exact h.djo x hx
  ·exact hdv
end
section
variable {P:Program} {ops:Array Oper} {Q:Exit->Act->World->Prop} {ds tail:List Nat} {E:List (Nat×Value)->World->Prop} {C:Nat->Prop} {w0 w:World} {n i:Nat} {r:List Stp} {pend:List Late} {had:Nat->Prop} {L:List (Nat×Value)} {M:Nat->Prop}
theorem DR.have1v {lt:Late} (k:Nat) (hk:pend[k]? =some lt) (he:lt.i=i)
  (h:∀ w1 M1 b v,lt.mkv b=v->Grow w M w1 M1->w1.heap[b]? =some lt.obj->w0.heap.size<=b->(lt.own=true->M1 b)->(lt.own=false->¬ M1 b)->¬ had b->DR P ops Q ds E C w0 n r (pend.filter fun p=>!(Nat.beq p.i i)) (hadB had b) ((lt.d,v) ::L) w1 M1):DR P ops Q ds E C w0 n (.have_ i ::r) pend had L w M:=
 DR.have1 k hk he fun w1 M1 b h1 h2 h3 h4 h5 h6=>h w1 M1 b _ rfl h1 h2 h3 h4 h5 h6
end
end Go.Proofs.Ytlmpoindlejefaa.E
namespace Go.Proofs.Ytlmpoindlejefaa.E
open Go Go.RowKit
section
variable {P:Program} {o:Oper} {n:Nat} {L:List (Nat×Value)} {w:World} {x y:Operand} {T e:TypeId} {k k' k'':IntKind} {Wr M N:Nat->Prop} {α:Type} {a:Kd α} {xs:List α}
end
section
variable {P:Program} {w:World}
end
section
variable {P:Program} {o:Oper} {n:Nat} {L:List (Nat×Value)} {w w0:World} {x y:Operand} {T T' e:TypeId} {Wr Wf M M0:Nat->Prop} {α:Type} {a:Kd α} {k kk:IntKind}
end
end Go.Proofs.Ytlmpoindlejefaa.E
namespace Go.Proofs.Ytlmpoindlejefaa.E
open Go Go.RowKit
end Go.Proofs.Ytlmpoindlejefaa.E
namespace Go.Proofs.Ytlmpoindlejefaa.E
open Go Go.RowKit Go.Proofs.YtlmpoindlejefaaW.PrintLast
inductive OT where
 | e
 | c (i:Nat) (s a:OT)
section
variable {P:Program} {ops:Array Oper} {Q:Exit->Act->World->Prop} {n i d:Nat} {ds:List Nat} {w0:World} {C:Nat->Prop} {L:List (Nat×Value)} {w:World} {o:Oper} {v:Value} {u t:OT}
variable {K:List (Nat×Value)->World->Prop}
end
end Go.Proofs.Ytlmpoindlejefaa.E
namespace Go.Proofs.Ytlmpoindlejefaa.E
open Go Go.RowKit Go.Proofs.YtlmpoindlejefaaW.PrintLast
end Go.Proofs.Ytlmpoindlejefaa.E
namespace Go.Proofs.Ytlmpoindlejefaa.E
open Go Go.RowKit Go.Proofs.YtlmpoindlejefaaW.PrintLast
end Go.Proofs.Ytlmpoindlejefaa.E
namespace Go.Proofs.Ytlmpoindlejefaa.E
open Go Go.RowKit Go.Proofs.YtlmpoindlejefaaW.PrintLast
variable {ops:Array Oper} {ds:List Nat} {ce:Array Bool->Bool} {lc pend:List Nat} {i:Nat} {r:List Stp}
end Go.Proofs.Ytlmpoindlejefaa.E
namespace Go.Proofs.Ytlmpoindlejefaa.E
open Go Go.RowKit
variable {P:Program} {Q:Exit->Act->World->Prop} {n:Nat} {L:List (Nat×Value)} {w:World}
end Go.Proofs.Ytlmpoindlejefaa.E
namespace Go.Proofs.Ytlmpoindlejefaa.E
open Go Go.RowKit Go.Proofs.YtlmpoindlejefaaW.PrintLast
section
variable {P:Program} {o:Oper} {n:Nat} {L:List (Nat×Value)} {w w0:World} {x y:Operand} {T e:TypeId} {Wr Wf M M0:Nat->Prop} {k:IntKind}
theorem Mb.own {b N:Nat} {cs:Array Value} (h:Mb Wf M w b T cs) (hc:cs=(List.replicate N (Value.int .i64 0)).toArray) (hN:N<=281474976710656):Own Wf M w (Kd.int .i64) T (.slice (some ⟨b,0,none⟩) N N) (List.replicate N (0:Int)):=by
 subst hc
 refine ⟨by rw [List.length_replicate];exact hN,List.replicate N (Value.int .i64 0),⟨by simp [Kd.int],.inr ⟨b,N,_,by simp,Nat.zero_le _,h.row,by simp,Nat.le_trans hN (by decide),by simp [Kd.int],by simp [Kd.int]⟩⟩,?_,fun g hg=>?_⟩
 ·have:=Cs.zeros (a:=Kd.int .i64) (M:=M) (w:=w) (x0:=(0:Int)) (c:=[Value.int .i64 0]) ⟨rfl,by simp [InK]⟩ N
  have e:∀ m,(List.replicate m [Value.int .i64 0]).flatten=List.replicate m (Value.int .i64 0):=fun m=>by
   induction m with
   | zero=>rfl
   | succ m ih=>rw [List.replicate_succ,List.flatten_cons,ih,List.replicate_succ];rfl
  rw [e] at this
  exact this
 ·have:b=g:=by simpa [Value.ownBlock] using hg
  subst this
  exact ⟨h.m,h.wr⟩
theorem o_allocA {z:Value} {N:Nat} (ho:o.op= .alloc T) (hz:(P.info? T).bind (·.zero)=some z) (hc:z.cells=(List.replicate N (Value.int .i64 0)).toArray) (hN:N<=281474976710656) (hS:St Wr w0 M0 w M) (hW:∀ b,Wf b->Wr b) (hF:∀ b,w0.heap.size<=b->Wf b) :
  OpC P o n L w (fun v w'=>∃ b M',v= .pointer (some ⟨b,0,none⟩)/\Own Wf M' w' (Kd.int .i64) T (.slice (some ⟨b,0,none⟩) N N) (List.replicate N (0:Int))/\St Wr w0 M0 w' M'/\Step M w M' w'/\Below w.heap.size w w'/\(∀ c,M c->M' c)/\(∀ g,(Value.slice (some ⟨b,0,none⟩) N N).ownBlock=some g->w.heap.size<=g)):=
 (zAU ho hz hS hW hF).mono fun v w' h=>by
  obtain ⟨b,M',h0,h1,h2,h3,h4,h5,h6⟩:=h
  exact ⟨b,M',h0,h1.own hc hN,h2,h3,h4,h5,fun g hg=>(show b=g by simpa [Value.ownBlock] using hg) ▸ h6⟩
theorem o_iaR {b off s N:Nat} {i:Int} (ho:o.op= .indexAddr T x y) (hu:P.underlying T=some (.array N e)) (hs:(P.info? e).map (·.size)=some s) (hx:ev L x=some (.pointer (some ⟨b,off,none⟩))) (hy:ev L y=some (.int k i)) (h0:0<=i) (h1:i<N) :
  OpV P o n L w (.pointer (some ⟨b,off+i.toNat*s,none⟩)):=fun a ha=>by
 obtain ⟨inf,hi,hz⟩:=Option.map_eq_some_iff.1 hs
 simp only [execOp,ho,ha.ev hx,ha.ev hy,Instr.indexAt,asIntOf,Instr.sureAddr,Sem.run_bind,Sem.run_pure,Result.andThen_ok,run_underlying hu]
 have hadd:(⟨b,off,none⟩:Addr).add (i.toNat*s)= ⟨b,off+i.toNat*s,none⟩:=by unfold Addr.add;split <;> simp_all
 simp [h0,h1,sizeOf,typeInfo,hi,hz,hadd]
theorem o_iaRV {b b' off s N m c m' c':Nat} {i:Int} (ho:o.op= .indexAddr T x y) (hu:P.underlying T=some (.array N e)) (hs:(P.info? e).map (·.size)=some s) (hx:ev L x=some (.pointer (some ⟨b,0,none⟩))) (hy:ev L y=some (.int k i)) (hA:Value.slice (some ⟨b,0,none⟩) m c= .slice (some ⟨b',off,none⟩) m' c') (h0:0<=i) (h1:i<N) :
  OpV P o n L w (.pointer (some ⟨b',off+i.toNat*s,none⟩)):=by
 have h:=Option.some.inj (Value.slice.inj hA).1
 obtain ⟨rfl,h⟩:=Addr.mk.inj h
 obtain ⟨rfl,_⟩:=h
 exact o_iaR ho hu hs hx hy h0 h1
theorem o_slR {b N s:Nat} {j:Int} {hi:Operand} (ho:o.op= .slice T x none (some hi) none) (hu:P.underlying T=some (.array N e)) (hx:ev L x=some (.pointer (some ⟨b,0,none⟩))) (hhi:ev L hi=some (.int k j)) (h0:0<=j) (h2:j<=N) {q:Nat} (hq:q=j.toNat) (hs:(P.info? e).map (·.size)=some s) :
  OpV P o n L w (.slice (some ⟨b,0,none⟩) q N):=fun act ha=>by
 obtain ⟨inf,hinf,hz⟩:=Option.map_eq_some_iff.1 hs
 subst hq
 have b1:∀ c,(Instr.sliceBound (.int k j) N c).run P w= .ok j.toNat w:=fun c=>run_sliceBound w k j N c h0 (by omega)
 simp only [execOp,ho,ha.ev hx,Option.map_some,ha.ev hhi,Instr.sliceAt,Option.map_none,Sem.run_bind,run_underlying hu,Result.andThen_ok,Instr.sureAddr,Instr.sliceBounds,Sem.run_pure,b1,sizeOf,typeInfo,run_program,hinf]
 simp [Addr.add,hz]
theorem Own.lenN {a:Kd Int} {v:Value} {A:Option Addr} {m c:Nat} {xs:List Int} (h:Own Wr M w a e v xs) (hv:v= .slice A m c):xs.length=m:=by
 obtain ⟨A',c',h1,_⟩:=h.form
 rw [hv] at h1
 exact (Value.slice.inj h1).2.1.symm
end
end Go.Proofs.Ytlmpoindlejefaa.E
