/- The engine, part 8: rows of rows of the call's own; borrowed rows; what is apart. No program text. -/
import Derived.Test.YtbjnmmgnonldnaaKE7
set_option linter.unusedVariables false
set_option linter.unusedSimpArgs false
namespace Go.Proofs.Ytbjnmmgnonldnaa.E
open Go Go.RowKit
def B1 (v:Value):Nat->Prop:=fun b=>v.ownBlock=some b
def B2 (v:Value) (us:List Value):Nat->Prop:=fun b=>v.ownBlock=some b\/∃ u ∈ us,u.ownBlock=some b
def Bb (b:Nat):Nat->Prop:=fun x=>x=b
def Dis (A B:Nat->Prop):Prop:=∀ b,A b->¬ B b
theorem Dis.symm {A B:Nat->Prop} (h:Dis A B):Dis B A:=fun b h1 h2=>h b h2 h1
section
variable {α:Type} {a:Kd α} {Wr Wr' M M' M0 C X Y:Nat->Prop} {w w' w0:World} {e e1 e2:TypeId} {u v v':Value} {us us':List Value} {xs:List α} {xss:List (List α)} {T:TypeId} {b:Nat} {cs:Array Value}
theorem Chg.row {row:Option Nat} (h:w.grownBy w' row):Chg w w' (fun b=>row=some b):=⟨h.size,fun b hb hn=>h.block b hb fun e=>hn e.symm⟩
theorem Chg.below (h:Below w.heap.size w w'):Chg w w' (fun _=>False):=⟨h.size,fun b hb _=>h.block b hb⟩
theorem Chg.eff (h:Eff Wr w w'):Chg w w' Wr:=⟨h.size,h.block⟩
theorem Chg.b1 (h:w.grownBy w' v.ownBlock):Chg w w' (B1 v):=Chg.row h
theorem Chg.bb (h:w.grownBy w' (some b)):Chg w w' (Bb b):=⟨h.size,fun x hx hn=>h.block x hx fun e=>hn (by injection e)⟩
theorem Dis.emp:Dis X (fun _=>False):=fun _ _ h=>h
theorem Dis.new (h1:∀ b,X b->b<w.heap.size) (h2:∀ b,Y b->w.heap.size<=b):Dis X Y:=fun b hx hy=>by have:=h1 b hx;have:=h2 b hy;omega
theorem Dis.grow (h:Dis X Y) (h1:∀ b,X b->b<w.heap.size) {Y':Nat->Prop} (h2:∀ b,Y' b->Y b\/w.heap.size<=b):Dis X Y':=fun b hx hy=>by
 rcases h2 b hy with hy | hy
 ·exact h b hx hy
 ·have:=h1 b hx;omega
theorem Dis.sub (h:Dis X Y) {Y':Nat->Prop} (h2:∀ b,Y' b->Y b):Dis X Y':=fun b hx hy=>h b hx (h2 b hy)
theorem Own.ltB (h:Own Wr M w a e v xs):∀ b,B1 v b->b<w.heap.size:=fun _ hb=>h.lt hb
theorem Own.inB (h:Own Wr M w a e v xs):∀ b,B1 v b->M b/\Wr b:=fun b hb=>by
 obtain ⟨_,cs,_,_,h3⟩:=h
 exact h3 b hb
theorem Own.reW (h:Own Wr M w a e v xs) (hw:∀ b,B1 v b->Wr' b):Own Wr' M w a e v xs:=by
 obtain ⟨h0,cs,h1,h2,h3⟩:=h
 exact ⟨h0,cs,h1,h2,fun g hg=>⟨(h3 g hg).1,hw g hg⟩⟩
theorem Own.keptC (h:Own Wr M w a e v xs) (hc:Chg w w' C) (hd:Dis (B1 v) C) (hs:Step M w M' w') (hi:∀ b,M b->M' b):Own Wr M' w' a e v xs:=by
 obtain ⟨hl,cs,h1,h2,h3⟩:=h
 refine ⟨hl,cs,⟨h1.1,?_⟩,h2.to hs,fun g hk=>⟨hi g (h3 g hk).1,(h3 g hk).2⟩⟩
 rcases h1.2 with hn | ⟨g,cap,cur,rfl,hb,hgg,rest⟩
 ·exact .inl hn
 ·refine .inr ⟨g,cap,cur,rfl,hb,?_,rest⟩
  rw [hc.block g (Array.getElem?_eq_some_iff.1 hgg).1 (hd g rfl)]
  exact hgg
theorem Mb.ltB (h:Mb Wr M w b T cs):∀ x,Bb b x->x<w.heap.size:=fun x hx=>by rw [show x=b from hx];exact h.lt
theorem Mb.inB (h:Mb Wr M w b T cs):∀ x,Bb b x->M x/\Wr x:=fun x hx=>by rw [show x=b from hx];exact ⟨h.m,h.wr⟩
theorem Mb.reW (h:Mb Wr M w b T cs) (hw:∀ x,Bb b x->Wr' x):Mb Wr' M w b T cs:=⟨h.m,hw b rfl,h.row⟩
theorem Mb.keptC (h:Mb Wr M w b T cs) (hc:Chg w w' C) (hd:Dis (Bb b) C) (hi:∀ b,M b->M' b):Mb Wr M' w' b T cs:=⟨hi b h.m,h.wr,(hc.block b h.lt (hd b rfl)).trans h.row⟩
def Kd.val:Kd Value where
 sz:=1
 R _ _ x cs:=cs= [x]/\x.oneCell'=true
 len h:=by rw [h.1];rfl
 one h u hu:=by rw [h.1] at hu;rw [List.mem_singleton.1 hu];exact h.2
 to h _:=h
structure Fam (Wr M:Nat->Prop) (w:World) (a:Kd α) (e:TypeId) (us:List Value) (xss:List (List α)):Prop where
 len:us.length=xss.length
 row:∀ i:Nat,i<xss.length->Own Wr M w a e (us.getD i (.slice none 0 0)) (xss.getD i [])
 dj:∀ i j:Nat,i<us.length->j<us.length->i≠j->Dis (B1 (us.getD i (.slice none 0 0))) (B1 (us.getD j (.slice none 0 0)))
structure Own2 (Wr M:Nat->Prop) (w:World) (a:Kd α) (e1 e2:TypeId) (v:Value) (us:List Value) (xss:List (List α)):Prop where
 out:Own Wr M w Kd.val e1 v us
 fam:Fam Wr M w a e2 us xss
 djo:∀ u ∈ us,Dis (B1 v) (B1 u)
theorem getD_mem {β:Type} {l:List β} {i:Nat} (h:i<l.length) (d:β):l.getD i d ∈ l:=by rw [List.getD_eq_getElem?_getD,List.getElem?_eq_getElem h];exact List.getElem_mem h
theorem mem_getD {β:Type} {l:List β} {x:β} (h:x ∈ l) (d:β):∃ i,i<l.length/\l.getD i d=x:=by
 obtain ⟨i,hi,rfl⟩:=List.mem_iff_getElem.1 h
 exact ⟨i,hi,by rw [List.getD_eq_getElem?_getD,List.getElem?_eq_getElem hi];rfl⟩
theorem Fam.mem (h:Fam Wr M w a e us xss) (hu:u ∈ us):∃ xs,Own Wr M w a e u xs:=by
 obtain ⟨i,hi,rfl⟩:=mem_getD hu (.slice none 0 0)
 exact ⟨_,h.row i (by rw [<- h.len];exact hi)⟩
theorem Own2.ltB (h:Own2 Wr M w a e1 e2 v us xss):∀ b,B2 v us b->b<w.heap.size:=fun b hb=>by
 rcases hb with hb | ⟨u,hu,hb⟩
 ·exact h.out.ltB b hb
 ·obtain ⟨xs,hx⟩:=h.fam.mem hu
  exact hx.ltB b hb
theorem Own2.inB (h:Own2 Wr M w a e1 e2 v us xss):∀ b,B2 v us b->M b/\Wr b:=fun b hb=>by
 rcases hb with hb | ⟨u,hu,hb⟩
 ·exact h.out.inB b hb
 ·obtain ⟨xs,hx⟩:=h.fam.mem hu
  exact hx.inB b hb
theorem Fam.keptC (h:Fam Wr M w a e us xss) (hc:Chg w w' C) (hd:∀ u ∈ us,Dis (B1 u) C) (hs:Step M w M' w') (hi:∀ b,M b->M' b):Fam Wr M' w' a e us xss:=
 ⟨h.len,fun i hi'=>(h.row i hi').keptC hc (hd _ (getD_mem (by rw [h.len];exact hi') _)) hs hi,h.dj⟩
theorem Own2.keptC (h:Own2 Wr M w a e1 e2 v us xss) (hc:Chg w w' C) (hd:Dis (B2 v us) C) (hs:Step M w M' w') (hi:∀ b,M b->M' b):Own2 Wr M' w' a e1 e2 v us xss:=
 ⟨h.out.keptC hc (fun b hb=>hd b (.inl hb)) hs hi,h.fam.keptC hc (fun u hu b hb=>hd b (.inr ⟨u,hu,hb⟩)) hs hi,h.djo⟩
theorem Own2.nil (Wr M:Nat->Prop) (w:World) (a:Kd α) (e1 e2:TypeId):Own2 Wr M w a e1 e2 (.slice none 0 0) [] ([]:List (List α)):=
 ⟨Own.nil _ _ _ _ _,⟨rfl,fun i h=>by simp at h,fun i j h=>by simp at h⟩,fun u h=>by simp at h⟩
theorem Own2.app (h:Own2 Wr M w a e1 e2 v us xss) {y:List α} (hu:Own Wr M w a e2 u y) (hd:Dis (B1 u) (B2 v us)) (ho:Own Wr M' w' Kd.val e1 v' (us ++ [u])) (hg:w.grownBy w' v.ownBlock) (hs:Step M w M' w') (hi:∀ b,M b->M' b) (hn:v'.ownBlock=v.ownBlock\/∃ g,v'.ownBlock=some g/\w.heap.size<=g):Own2 Wr M' w' a e1 e2 v' (us ++ [u]) (xss ++ [y]):=by
 have hc:=Chg.b1 hg
 have hx:∀ x ∈ us ++ [u],Dis (B1 v) (B1 x)/\∀ b,B1 x b->b<w.heap.size:=fun x hx=>by
  rcases List.mem_append.1 hx with hx | hx
  ·obtain ⟨xs,hxs⟩:=h.fam.mem hx
   exact ⟨h.djo x hx,hxs.ltB⟩
  ·rw [List.mem_singleton.1 hx];exact ⟨(hd.sub fun b hb=>.inl hb).symm,hu.ltB⟩
 have hdu:∀ j,j<us.length->Dis (B1 u) (B1 (us.getD j (.slice none 0 0))):=fun j hj=>hd.sub fun b hb=>.inr ⟨_,getD_mem hj _,hb⟩
 have hlast:∀ {β:Type} (l:List β) (x d:β) (k:Nat),k<(l ++ [x]).length->(k<l.length/\(l ++ [x]).getD k d=l.getD k d)\/(k=l.length/\(l ++ [x]).getD k d=x):=fun l x d k hk=>by
  simp only [List.length_append,List.length_cons,List.length_nil] at hk
  rcases Nat.lt_or_ge k l.length with h | h
  ·exact .inl ⟨h,by rw [List.getD_eq_getElem?_getD,List.getElem?_append_left h,List.getD_eq_getElem?_getD]⟩
  ·have:k=l.length:=by omega
   subst this
   exact .inr ⟨rfl,by rw [List.getD_eq_getElem?_getD,List.getElem?_append_right (Nat.le_refl _),Nat.sub_self];rfl⟩
 refine ⟨ho,⟨by simp [h.fam.len],fun k hk=>?_,fun k l hk hl hne=>?_⟩,fun x hx' b hb hxb=>?_⟩
 ·have hk2:k<(us ++ [u]).length:=by simpa [h.fam.len] using hk
  rcases hlast xss y [] k hk with ⟨h1,h2⟩ | ⟨h1,h2⟩
  ·rcases hlast us u (.slice none 0 0) k hk2 with ⟨h3,h4⟩ | ⟨h3,h4⟩
   ·rw [h2,h4];exact (h.fam.row k h1).keptC hc (h.djo _ (getD_mem h3 _)).symm hs hi
   ·have:=h.fam.len;omega
  ·rcases hlast us u (.slice none 0 0) k hk2 with ⟨h3,h4⟩ | ⟨h3,h4⟩
   ·have:=h.fam.len;omega
   ·rw [h2,h4];exact hu.keptC hc (hd.sub fun b hb=>.inl hb) hs hi
 ·rcases hlast us u (.slice none 0 0) k hk with ⟨h1,h2⟩ | ⟨h1,h2⟩
  ·rcases hlast us u (.slice none 0 0) l hl with ⟨h3,h4⟩ | ⟨h3,h4⟩
   ·rw [h2,h4];exact h.fam.dj k l h1 h3 hne
   ·rw [h2,h4];exact (hdu k h1).symm
  ·rcases hlast us u (.slice none 0 0) l hl with ⟨h3,h4⟩ | ⟨h3,h4⟩
   ·rw [h2,h4];exact hdu l h3
   ·omega
 ·obtain ⟨k1,k2⟩:=hx x hx'
  rcases hn with hn | ⟨g,hn,hgl⟩
  ·exact k1 b (hn.symm.trans hb) hxb
  ·have:=k2 b hxb
   have e:some g=some b:=hn.symm.trans hb
   injection e with e
   omega
theorem B1.app (hn:v'.ownBlock=v.ownBlock\/∃ g,v'.ownBlock=some g/\w.heap.size<=g):∀ b,B1 v' b->B1 v b\/w.heap.size<=b:=fun b hb=>by
 rcases hn with hn | ⟨g,hn,hg⟩
 ·exact .inl (hn.symm.trans hb)
 ·have e:some g=some b:=hn.symm.trans hb
  injection e with e
  exact .inr (by omega)
theorem Own2.rd (h:Own2 Wr M w a e1 e2 v us xss) (hs:∀ b,M' b->M b) (hn:∀ b,B2 v us b->¬ M' b):∃ A c,v= .slice A xss.length c/\xss.length<=c/\xss.length<=281474976710656/\Rd (Kd.slice a) M' w A xss/\(A=none->xss= []):=by
 have hC:∀ (us:List Value) (xss:List (List α)),us.length=xss.length->(∀ i,i<xss.length->Own Wr M w a e2 (us.getD i (.slice none 0 0)) (xss.getD i []))->(∀ u ∈ us,∀ b,B1 u b->¬ M' b)->(Kd.slice a).Cs M' w xss us:=by
  intro us
  induction us with
  | nil=>intro xss hl _ _;rw [List.eq_nil_of_length_eq_zero hl.symm];exact .nil
  | cons u us ih=>
   intro xss hl hr hb
   cases xss with
   | nil=>simp at hl
   | cons x xss=>
    have h0:=hr 0 (by simp)
    obtain ⟨A,c,hv,h1,h2,h3,_⟩:=h0.rd hs (fun g hg=>hb u List.mem_cons_self g hg)
    refine Kd.Cs.cons (c:=[u]) (show (Kd.slice a).R M' w x [u] from ⟨A,c,?_,h1,h2,h3⟩) (ih xss (by simpa using hl) (fun i hi=>by simpa using hr (i+1) (by simp;exact hi)) fun u hu=>hb u (List.mem_cons_of_mem _ hu))
    have:u= .slice A x.length c:=by simpa using hv
    rw [this]
 have hcs:=hC us xss h.fam.len h.fam.row fun u hu b hb=>hn b (.inr ⟨u,hu,hb⟩)
 obtain ⟨A,c,hv,h1,h2,h3,h4⟩:=h.out.rd hs (fun g hg=>hn g (.inl hg))
 refine ⟨A,c,by rw [<- h.fam.len];exact hv,by rw [<- h.fam.len];exact h1,by rw [<- h.fam.len];exact h2,?_,fun hA=>List.eq_nil_of_length_eq_zero (by rw [<- h.fam.len,h4 hA];rfl)⟩
 rcases h3 with h3 | ⟨b,off,cs,hb,hm,hlt,hcv,hat⟩
 ·exact .inl (List.eq_nil_of_length_eq_zero (by rw [<- h.fam.len,h3];rfl))
 ·refine .inr ⟨b,off,us,hb,hm,hlt,hcs,?_⟩
  have:∀ (us:List Value) (cs:List Value),Kd.val.Cs M' w us cs->cs=us:=by
   intro us cs hc
   induction hc with
   | nil=>rfl
   | cons hr _ ih=>rw [hr.1,ih];rfl
  rw [<- this us cs hcv]
  exact hat
theorem Own.freeze (hS:St Wr' w0 M0 w M) (h:Own (fun b=>w0.heap.size<=b) M w a e v xs) (hM:∀ b,M0 b->b<w0.heap.size) :
  ∃ M',St Wr' w0 M0 w M'/\Step M w M' w/\(∀ b,M b->¬ B1 v b->M' b)/\(∀ b,M' b->M b)/\∃ A c,v= .slice A xs.length c/\xs.length<=c/\xs.length<=281474976710656/\Rd a M' w A xs/\(A=none->xs= []):=by
 have hst:Step M w (fun b=>M b/\¬ B1 v b) w:=Step.weak fun b hb=>hb.1
 refine ⟨fun b=>M b/\¬ B1 v b,⟨hS.eff,hS.step.trans hst,fun b hb=>⟨hS.inc b hb,fun hg=>?_⟩,fun b hb=>hS.lt b hb.1⟩,hst,fun b h1 h2=>⟨h1,h2⟩,fun b hb=>hb.1,h.rd (fun b hb=>hb.1) fun g hg hm=>hm.2 hg⟩
 have:=(h.inB b hg).2
 have:=hM b hb
 omega
theorem Own.dropC (h:Own Wr M w a e v xs) (hm:∀ b,M b->¬ C b->M' b) (hs:∀ b,M' b->M b) (hd:Dis (B1 v) C):Own Wr M' w a e v xs:=by
 obtain ⟨h0,cs,h1,h2,h3⟩:=h
 exact ⟨h0,cs,h1,h2.to (Step.weak hs),fun g hg=>⟨hm g (h3 g hg).1 (hd g hg),(h3 g hg).2⟩⟩
theorem Mb.dropC (h:Mb Wr M w b T cs) (hm:∀ b,M b->¬ C b->M' b) (hd:Dis (Bb b) C):Mb Wr M' w b T cs:=⟨hm b h.m (hd b rfl),h.wr,h.row⟩
end
end Go.Proofs.Ytbjnmmgnonldnaa.E
