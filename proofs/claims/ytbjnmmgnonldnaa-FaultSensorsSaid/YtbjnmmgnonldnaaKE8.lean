/- The engine, part 8: rows of rows of the call's own; borrowed rows; what is apart. No program text. -/
import Derived.Test.YtbjnmmgnonldnaaKE7
set_option linter.unusedVariables false
set_option linter.unusedSimpArgs false
namespace Go.Proofs.Ytbjnmmgnonldnaa.E
open Go Go.RowKit
def B1 (v:Value):Nat->Prop:=fun b=>v.ownBlock=some b
def Bb (b:Nat):Nat->Prop:=fun x=>x=b
def Dis (A B:Nat->Prop):Prop:=∀ b,A b->¬ B b
theorem Dis.symm {A B:Nat->Prop} (h:Dis A B):Dis B A:=fun b h1 h2=>h b h2 h1
section
variable {α:Type} {a:Kd α} {Wr Wr' M M' M0 C X Y:Nat->Prop} {w w' w0:World} {e e1 e2:TypeId} {u v v':Value} {us us':List Value} {xs:List α} {xss:List (List α)} {T:TypeId} {b:Nat} {cs:Array Value}
theorem Chg.row {row:Option Nat} (h:w.grownBy w' row):Chg w w' (fun b=>row=some b):=⟨h.size,fun b hb hn=>h.block b hb fun e=>hn e.symm⟩
theorem Chg.below (h:Below w.heap.size w w'):Chg w w' (fun _=>False):=⟨h.size,fun b hb _=>h.block b hb⟩
theorem Chg.eff (h:Eff Wr w w'):Chg w w' Wr:=⟨h.size,h.block⟩
theorem Chg.b1 (h:w.grownBy w' v.ownBlock):Chg w w' (B1 v):=Chg.row h
theorem Chg.bb (h:w.grownBy w' (some b)):Chg w w' (Bb b):=⟨h.size,fun x hx hn=>h.block x hx fun e=>hn (by injection e)⟩
theorem Dis.emp:Dis X (fun _=>False):=fun _ _ h=>h
theorem Dis.new (h1:∀ b,X b->b<w.heap.size) (h2:∀ b,Y b->w.heap.size<=b):Dis X Y:=fun b hx hy=>by have:=h1 b hx;have:=h2 b hy;omega
theorem Dis.grow (h:Dis X Y) (h1:∀ b,X b->b<w.heap.size) {Y':Nat->Prop} (h2:∀ b,Y' b->Y b\/w.heap.size<=b):Dis X Y':=fun b hx hy=>by
 rcases h2 b hy with hy | hy
 ·exact h b hx hy
 ·have:=h1 b hx;omega
theorem Own.ltB (h:Own Wr M w a e v xs):∀ b,B1 v b->b<w.heap.size:=fun _ hb=>h.lt hb
theorem Own.inB (h:Own Wr M w a e v xs):∀ b,B1 v b->M b/\Wr b:=fun b hb=>by
 obtain ⟨_,cs,_,_,h3⟩:=h
 exact h3 b hb
theorem Own.reW (h:Own Wr M w a e v xs) (hw:∀ b,B1 v b->Wr' b):Own Wr' M w a e v xs:=by
 obtain ⟨h0,cs,h1,h2,h3⟩:=h
 exact ⟨h0,cs,h1,h2,fun g hg=>⟨(h3 g hg).1,hw g hg⟩⟩
theorem Own.keptC (h:Own Wr M w a e v xs) (hc:Chg w w' C) (hd:Dis (B1 v) C) (hs:Step M w M' w') (hi:∀ b,M b->M' b):Own Wr M' w' a e v xs:=by
 obtain ⟨hl,cs,h1,h2,h3⟩:=h
 refine ⟨hl,cs,⟨h1.1,?_⟩,h2.to hs,fun g hk=>⟨hi g (h3 g hk).1,(h3 g hk).2⟩⟩
 rcases h1.2 with hn | ⟨g,cap,cur,rfl,hb,hgg,rest⟩
 ·exact .inl hn
 ·refine .inr ⟨g,cap,cur,rfl,hb,?_,rest⟩
  rw [hc.block g (Array.getElem?_eq_some_iff.1 hgg).1 (hd g rfl)]
  exact hgg
theorem Mb.ltB (h:Mb Wr M w b T cs):∀ x,Bb b x->x<w.heap.size:=fun x hx=>by rw [show x=b from hx];exact h.lt
theorem Mb.inB (h:Mb Wr M w b T cs):∀ x,Bb b x->M x/\Wr x:=fun x hx=>by rw [show x=b from hx];exact ⟨h.m,h.wr⟩
theorem Mb.reW (h:Mb Wr M w b T cs) (hw:∀ x,Bb b x->Wr' x):Mb Wr' M w b T cs:=⟨h.m,hw b rfl,h.row⟩
theorem Mb.keptC (h:Mb Wr M w b T cs) (hc:Chg w w' C) (hd:Dis (Bb b) C) (hi:∀ b,M b->M' b):Mb Wr M' w' b T cs:=⟨hi b h.m,h.wr,(hc.block b h.lt (hd b rfl)).trans h.row⟩
theorem B1.app (hn:v'.ownBlock=v.ownBlock\/∃ g,v'.ownBlock=some g/\w.heap.size<=g):∀ b,B1 v' b->B1 v b\/w.heap.size<=b:=fun b hb=>by
 rcases hn with hn | ⟨g,hn,hg⟩
 ·exact .inl (hn.symm.trans hb)
 ·have e:some g=some b:=hn.symm.trans hb
  injection e with e
  exact .inr (by omega)
theorem Own.freeze (hS:St Wr' w0 M0 w M) (h:Own (fun b=>w0.heap.size<=b) M w a e v xs) (hM:∀ b,M0 b->b<w0.heap.size) :
  ∃ M',St Wr' w0 M0 w M'/\Step M w M' w/\(∀ b,M b->¬ B1 v b->M' b)/\(∀ b,M' b->M b)/\∃ A c,v= .slice A xs.length c/\xs.length<=c/\xs.length<=281474976710656/\Rd a M' w A xs/\(A=none->xs= []):=by
 have hst:Step M w (fun b=>M b/\¬ B1 v b) w:=Step.weak fun b hb=>hb.1
 refine ⟨fun b=>M b/\¬ B1 v b,⟨hS.eff,hS.step.trans hst,fun b hb=>⟨hS.inc b hb,fun hg=>?_⟩,fun b hb=>hS.lt b hb.1⟩,hst,fun b h1 h2=>⟨h1,h2⟩,fun b hb=>hb.1,h.rd (fun b hb=>hb.1) fun g hg hm=>hm.2 hg⟩
 have:=(h.inB b hg).2
 have:=hM b hb
 omega
theorem Own.dropC (h:Own Wr M w a e v xs) (hm:∀ b,M b->¬ C b->M' b) (hs:∀ b,M' b->M b) (hd:Dis (B1 v) C):Own Wr M' w a e v xs:=by
 obtain ⟨h0,cs,h1,h2,h3⟩:=h
 exact ⟨h0,cs,h1,h2.to (Step.weak hs),fun g hg=>⟨hm g (h3 g hg).1 (hd g hg),(h3 g hg).2⟩⟩
theorem Mb.dropC (h:Mb Wr M w b T cs) (hm:∀ b,M b->¬ C b->M' b) (hd:Dis (Bb b) C):Mb Wr M' w b T cs:=⟨hm b h.m (hd b rfl),h.wr,h.row⟩
end
end Go.Proofs.Ytbjnmmgnonldnaa.E
