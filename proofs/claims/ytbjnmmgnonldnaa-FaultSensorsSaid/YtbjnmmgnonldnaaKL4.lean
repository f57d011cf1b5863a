/- Values as the statement hands them in, kind by kind: ints, rows of any kind, incidences, problems. -/
import Derived.Test.YtbjnmmgnonldnaaKTK
import Derived.Deep.SlicePairs
import Derived.SizedLaws
import Derived.WalkKit
import Derived.ProofKit
import Derived.OpenShut
import Derived.ChangeOld
import Derived.Below
import Derived.Carry
namespace Go.Proofs.Ytbjnmmgnonldnaa.E
open Go Go.RowKit Go.ChangeShapes Go.WideShapes Go.Deep
theorem spot_of {w:World} {a:Addr} {v:Value} (h:w.cell? a=some v):a= ⟨a.block,a.off,none⟩/\a.block<w.heap.size:=by
 obtain ⟨b,o,s⟩:=a
 unfold World.cell? at h
 split at h
 ·rename_i hb
  split at h
  ·cases h
  ·rename_i hs
   cases s with
   | none=>exact ⟨rfl,(Array.getElem?_eq_some_iff.1 hb).1⟩
   | some x=>exact absurd rfl hs
 ·cases h
theorem lit_i64 {n:Int} (h:(Lit.int .i64 n).wf=true):InK .i64 n:=by
 have: -9223372036854775808<=n/\n<=9223372036854775807:=by
  simpa [Lit.wf,IntKind.min,IntKind.max,IntKind.bits,IntKind.signed] using h
 exact this
theorem At.flat {w:World} {b s:Nat} :∀ (L:List (List Value)) (off:Nat),(∀ i,(h:i<L.length)->L[i].length=s/\At w b (off+i*s) L[i])->At w b off L.flatten
 | [],off,_=>fun j u hu=>by simp at hu
 | c ::L,off,h=>fun j u hu=>by
  obtain ⟨h1,h2⟩:=h 0 (by simp)
  simp only [List.getElem_cons_zero,Nat.zero_mul,Nat.add_zero] at h1 h2
  rw [List.flatten_cons] at hu
  by_cases e:j<c.length
  ·rw [List.getElem?_append_left e] at hu
   exact h2 j u hu
  ·rw [List.getElem?_append_right (by omega)] at hu
   have:=At.flat (w:=w) (b:=b) (s:=s) L (off+s) (fun i hi=>by
    have:=h (i+1) (by simpa using hi)
    simp only [List.getElem_cons_succ] at this
    rwa [show off+(i+1)*s=off+s+i*s by rw [Nat.succ_mul];omega] at this) (j - c.length) u hu
   rwa [show off+s+(j - c.length)=off+j by omega] at this
def Opn {α H:Type} (enc:TypeId×Value->H) (P:Program) (W:World) (t:TypeId) (k:Kd α):Prop:=
 ∀ (n:Nat) (cs:List Value) (y:DataW H×List MemPlace),(∀ x ∈ y.1.weights P t,x<=reachBytes)->DataW.trod enc P W 0 (fun _=>true) true n t cs=some y->∃ x:α,k.R (fun _=>False) W x cs
section
variable {H:Type} {enc:TypeId×Value->H} {P:Program} {W:World} {t e:TypeId} {g0 g1 g2:Field} {B:Nat}
theorem weightsAll_mem:∀ {ds:List (DataW H)} {d:DataW H},d ∈ ds->∀ n ∈ d.weights P e,n ∈ DataW.weightsAll P e ds
 | [],_,h=>by cases h
 | d ::ds,x,h=>fun n hn=>by
  unfold DataW.weightsAll
  rcases List.mem_cons.1 h with rfl | h
  ·exact List.mem_append_left _ hn
  ·exact List.mem_append_right _ (weightsAll_mem h n hn)
theorem opn_int (ht:P.underlying t=some (.int .i64)):Opn enc P W t (Kd.int .i64):=fun n cs y _ hy=>by
 obtain ⟨v,e0,_,w0⟩:=DataW.trod_int ht hy
 exact ⟨v,e0,lit_i64 w0⟩
theorem opn_slice {α:Type} [Inhabited α] {k:Kd α} (hu:P.underlying t=some (.slice e)) (ce:P.cellsOf e=k.sz) (hk:1<=k.sz) (hB:P.bytesOf e=B) (hB1:1<=B) (elem:Opn enc P W e k):Opn enc P W t (Kd.slice k):=fun n cs y hsz hf=>by
 rcases open_slice hu hf with ⟨hcs,_⟩ | ⟨a',len,cap,m,n,D,Pl,hcs,_,hl,_,hm,hx,hc⟩
 ·exact ⟨[],none,0,hcs,Nat.zero_le _,Nat.zero_le _,.inl rfl⟩
 simp only [if_true] at hm
 subst hm
 have hlen:len<=281474976710656:=by
  subst hx
  have z:=hsz _ (by simp only [DataW.weights,hu];exact List.mem_cons_self ..)
  rw [hB] at z
  simp only [List.length_map,List.length_range] at z
  have h1:=Nat.mul_le_mul_left (len+(m - len)) hB1
  have h2:reachBytes<2 ^ 47:=reachBytes_lt
  omega
 rcases Nat.eq_zero_or_pos len with h0 | h0
 ·subst h0;exact ⟨[],some a',m,hcs,Nat.zero_le _,Nat.zero_le _,.inl rfl⟩
 have val:∀ i,i<len->∃ p:α×List Value,k.R (fun _=>False) W p.1 p.2/\p.2.length=k.sz/\∀ j u,p.2[j]? =some u->W.cell? ((a'.add (i*k.sz)).add j)=some u:=fun i hi=>by
  obtain ⟨cs',g1,g2⟩:=hc i (by omega)
  rw [ce] at g1
  obtain ⟨_,gl,gc⟩:=World.cells?_some g1
  obtain ⟨x,hxr⟩:=elem _ _ _ (fun x hx'=>hsz x (by
   subst hx
   simp only [DataW.weights,hu]
   exact List.mem_cons_of_mem _ (List.mem_append_left _ (weightsAll_mem (List.mem_map.2 ⟨i,List.mem_range.2 hi,rfl⟩) x hx')))) g2
  refine ⟨(x,cs'),hxr,gl,fun j u hju=>?_⟩
  have hj:j<cs'.length:=(List.getElem?_eq_some_iff.1 hju).1
  have:=gc j (by omega)
  rw [this]
  exact hju
 obtain ⟨X,hX⟩:=choose_lt val
 obtain ⟨x1,x2,x3⟩:=hX 0 h0
 have first:∃ u,W.cell? (a'.add 0)=some u:=by
  have hlt:0<(X 0).2.length:=by omega
  have:=x3 0 _ (List.getElem?_eq_getElem hlt)
  exact ⟨_,by simpa [Addr.add] using this⟩
 obtain ⟨u0,first⟩:=first
 obtain ⟨s1,s2⟩:=spot_of first
 have hspot:a'= ⟨a'.block,a'.off,none⟩:=by simpa [Addr.add] using s1
 have hblk:a'.block<W.heap.size:=by simpa [Addr.add] using s2
 refine ⟨(List.range len).map fun i=>(X i).1,some a',m,by rw [hcs];simp,by simpa using hl,by simpa using hlen,.inr ⟨a'.block,a'.off,((List.range len).map fun i=>(X i).2).flatten,by rw [<- hspot],fun h=>h,hblk,?_,At.flat (s:=k.sz) _ _ fun i hi=>?_⟩⟩
 ·have:∀ l:List Nat,(∀ i ∈ l,i<len)->k.Cs (fun _=>False) W (l.map fun i=>(X i).1) ((l.map fun i=>(X i).2).flatten):=by
   intro l
   induction l with
   | nil=>intro _;exact .nil
   | cons i l ih=>
    intro hl
    have:=Kd.Cs.cons (a:=k) (M:=fun _=>False) (w:=W) (hX i (hl i (by simp))).1 (ih fun q hq=>hl q (by simp [hq]))
    simpa using this
  exact this _ fun i hi=>List.mem_range.1 hi
 ·have hi':i<len:=by simpa using hi
  rw [List.getElem_map,List.getElem_range]
  obtain ⟨_,y2,y3⟩:=hX i hi'
  refine ⟨y2,fun j u hju=>?_⟩
  have:=y3 j u hju
  rw [hspot,add_add,add_plain] at this
  rw [Nat.add_assoc]
  exact this
theorem opn_inc (hu:P.underlying t=some (.struct #[g0,g1,g2])) (ce:P.cellsOf t=3) (o0:g0.offset=0) (o1:g1.offset=1) (o2:g2.offset=2) (c0:P.cellsOf g0.type=1) (c1:P.cellsOf g1.type=1) (c2:P.cellsOf g2.type=1) (k0:Opn enc P W g0.type (Kd.int .i64)) (k1:Opn enc P W g1.type (Kd.int .i64)) (k2:Opn enc P W g2.type (Kd.slice (Kd.slice (Kd.int .i64)))):Opn enc P W t k_api_Incidence:=fun n cs y hsz hy=>by
 obtain ⟨xs,m,_,rfl,hl,hlen,hf⟩:=DataW.trod_struct hu hy
 match xs,hlen with
 | [y0,y1,y2],_=>
  have q0:=hf 0 g0 rfl
  have q1:=hf 1 g1 rfl
  have q2:=hf 2 g2 rfl
  rw [o0,c0] at q0
  rw [o1,c1] at q1
  rw [o2,c2] at q2
  have hw:∀ (j:Nat) (t':TypeId) (d:DataW H),[g0.type,g1.type,g2.type][j]? =some t'->[y0.1,y1.1,y2.1][j]? =some d->∀ n ∈ d.weights P t',n<=reachBytes:=fun j t' d h1 h2 n hn=>hsz n (by
   simp only [DataW.weights,hu]
   exact DataW.weights_mem_each (ts:=[g0.type,g1.type,g2.type]) h1 h2 n hn)
  rw [ce] at hl
  match cs,hl with
  | [v0,v1,v2],_=>
   obtain ⟨n0,e0,i0⟩:=k0 _ _ _ (hw 0 _ _ rfl rfl) q0
   obtain ⟨n1,e1,i1⟩:=k1 _ _ _ (hw 1 _ _ rfl rfl) q1
   obtain ⟨x2,hx2⟩:=k2 _ _ _ (hw 2 _ _ rfl rfl) q2
   obtain ⟨A,c,e2,i2,i3,i4⟩:=sl_o (show (Kd.slice (Kd.slice (Kd.int .i64))).R _ _ x2 [v2] from hx2)
   simp at e0 e1
   refine ⟨⟨n0,n1,x2⟩,A,c,?_,i0,i1,i2,i3,i4⟩
   rw [e0,e1,e2]
theorem opn_diag (hu:P.underlying t=some (.struct #[g0,g1])) (ce:P.cellsOf t=4) (o0:g0.offset=0) (o1:g1.offset=3) (c0:P.cellsOf g0.type=3) (c1:P.cellsOf g1.type=1) (k0:Opn enc P W g0.type k_api_Incidence) (k1:Opn enc P W g1.type (Kd.slice (Kd.slice (Kd.int .i64)))):Opn enc P W t k_api_Diag:=fun n cs y hsz hy=>by
 obtain ⟨xs,m,_,rfl,hl,hlen,hf⟩:=DataW.trod_struct hu hy
 match xs,hlen with
 | [y0,y1],_=>
  have q0:=hf 0 g0 rfl
  have q1:=hf 1 g1 rfl
  rw [o0,c0] at q0
  rw [o1,c1] at q1
  have hw:∀ (j:Nat) (t':TypeId) (d:DataW H),[g0.type,g1.type][j]? =some t'->[y0.1,y1.1][j]? =some d->∀ n ∈ d.weights P t',n<=reachBytes:=fun j t' d h1 h2 n hn=>hsz n (by
   simp only [DataW.weights,hu]
   exact DataW.weights_mem_each (ts:=[g0.type,g1.type]) h1 h2 n hn)
  rw [ce] at hl
  match cs,hl with
  | [v0,v1,v2,v3],_=>
   obtain ⟨x0,h0⟩:=k0 _ _ _ (hw 0 _ _ rfl rfl) q0
   obtain ⟨x1,hx1⟩:=k1 _ _ _ (hw 1 _ _ rfl rfl) q1
   obtain ⟨A,c,e1,i1,i2,i3⟩:=sl_o (show (Kd.slice (Kd.slice (Kd.int .i64))).R _ _ x1 [v3] from hx1)
   subst e1
   exact ⟨⟨x0,x1⟩,v0,v1,v2,A,c,rfl,h0,i1,i2,i3⟩
theorem wtsj {ts:List TypeId} {ds:List (DataW H)} {j:Nat} {d:DataW H} (hsz:(DataW.weightsEach P ts ds).all (· <=reachBytes)=true) (ht:ts[j]? =some t) (hd:ds[j]? =some d):∀ n ∈ d.weights P t,n<=reachBytes:=fun n hn=>by
 simpa using List.all_eq_true.1 hsz n (DataW.weights_mem_each ht hd n hn)
theorem Opn.arg {α:Type} {k:Kd α} (h:Opn enc P W t k) {v:Value} {d:DataW H} {ps:List MemPlace} (hw:∀ n ∈ d.weights P t,n<=reachBytes) (ht:DataW.Trod enc P W 0 (fun _=>true) true t v d ps):∃ x:α,k.R (fun _=>False) W x v.cells.toList:=by
 obtain ⟨n,hn⟩:=ht
 exact h n _ (d,ps) hw hn
end
end Go.Proofs.Ytbjnmmgnonldnaa.E
