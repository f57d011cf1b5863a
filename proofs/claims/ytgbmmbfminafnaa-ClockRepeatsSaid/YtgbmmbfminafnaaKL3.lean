/- Rows of structs of ints, and rows of ints, as the statement hands them in. -/
import Derived.Test.YtgbmmbfminafnaaKTK
import Derived.Deep.SlicePairs
import Derived.SizedLaws
import Derived.WalkKit
import Derived.ProofKit
import Derived.OpenShut
import Derived.ChangeOld
import Derived.Below
import Derived.Carry
namespace Go.Proofs.Ytgbmmbfminafnaa.E
open Go Go.RowKit Go.ChangeShapes Go.WideShapes Go.Deep
theorem spot_of {w:World} {a:Addr} {v:Value} (h:w.cell? a=some v):a= ⟨a.block,a.off,none⟩/\a.block<w.heap.size:=by
 obtain ⟨b,o,s⟩:=a
 unfold World.cell? at h
 split at h
 ·rename_i hb
  split at h
  ·cases h
  ·rename_i hs
   cases s with
   | none=>exact ⟨rfl,(Array.getElem?_eq_some_iff.1 hb).1⟩
   | some x=>exact absurd rfl hs
 ·cases h
theorem lit_i64 {n:Int} (h:(Lit.int .i64 n).wf=true):InK .i64 n:=by
 have: -9223372036854775808<=n/\n<=9223372036854775807:=by
  simpa [Lit.wf,IntKind.min,IntKind.max,IntKind.bits,IntKind.signed] using h
 exact this
theorem At.flat {w:World} {b s:Nat} :∀ (L:List (List Value)) (off:Nat),(∀ i,(h:i<L.length)->L[i].length=s/\At w b (off+i*s) L[i])->At w b off L.flatten
 | [],off,_=>fun j u hu=>by simp at hu
 | c ::L,off,h=>fun j u hu=>by
  obtain ⟨h1,h2⟩:=h 0 (by simp)
  simp only [List.getElem_cons_zero,Nat.zero_mul,Nat.add_zero] at h1 h2
  rw [List.flatten_cons] at hu
  by_cases e:j<c.length
  ·rw [List.getElem?_append_left e] at hu
   exact h2 j u hu
  ·rw [List.getElem?_append_right (by omega)] at hu
   have:=At.flat (w:=w) (b:=b) (s:=s) L (off+s) (fun i hi=>by
    have:=h (i+1) (by simpa using hi)
    simp only [List.getElem_cons_succ] at this
    rwa [show off+(i+1)*s=off+s+i*s by rw [Nat.succ_mul];omega] at this) (j - c.length) u hu
   rwa [show off+s+(j - c.length)=off+j by omega] at this
theorem open_gen {α:Type} [Inhabited α] {k:Kd α} {H:Type} {enc:TypeId×Value->H} {P:Program} {W:World} {t e:TypeId} {a:Option Addr} {len cap B:Nat} {d:DataW H} {ps:List MemPlace}
  (hsz:∀ n ∈ d.weights P t,n<=reachBytes) (hu:P.underlying t=some (.slice e)) (ce:P.cellsOf e=k.sz) (hk:1<=k.sz) (hB:P.bytesOf e=B) (hB1:1<=B)
  (elem:∀ n cs y,DataW.trod enc P W 0 (fun _=>true) true n e cs=some y->∃ x:α,k.R (fun _=>False) W x cs)
  (h:DataW.Trod enc P W 0 (fun _=>true) true t (.slice a len cap) d ps):∃ xs:List α,len=xs.length/\xs.length<=cap/\xs.length<=281474976710656/\Rd k (fun _=>False) W a xs:=by
 obtain ⟨fuel,hf⟩:=h
 rcases open_slice hu hf with ⟨hcs,_⟩ | ⟨a',l,c,m,n,D,Pl,hcs,_,hl,_,hm,hx,hc⟩
 ·simp [Value.cells] at hcs
  obtain ⟨rfl,rfl,rfl⟩:=hcs
  exact ⟨[],rfl,Nat.zero_le _,Nat.zero_le _,.inl rfl⟩
 simp [Value.cells] at hcs
 obtain ⟨rfl,rfl,rfl⟩:=hcs
 simp only [if_true] at hm
 subst hm
 have hlen:len<=281474976710656:=by
  obtain ⟨hx,_⟩:=Prod.mk.inj hx
  subst hx
  have z:=hsz _ (by simp only [DataW.weights,hu];exact List.mem_cons_self ..)
  rw [hB] at z
  simp only [List.length_map,List.length_range] at z
  have h1:=Nat.mul_le_mul_left (len+(m - len)) hB1
  have h2:reachBytes<2 ^ 47:=reachBytes_lt
  omega
 rcases Nat.eq_zero_or_pos len with h0 | h0
 ·subst h0;exact ⟨[],rfl,Nat.zero_le _,Nat.zero_le _,.inl rfl⟩
 have val:∀ i,i<len->∃ p:α×List Value,k.R (fun _=>False) W p.1 p.2/\p.2.length=k.sz/\∀ j u,p.2[j]? =some u->W.cell? ((a'.add (i*k.sz)).add j)=some u:=fun i hi=>by
  obtain ⟨cs',g1,g2⟩:=hc i (by omega)
  rw [ce] at g1
  obtain ⟨_,gl,gc⟩:=World.cells?_some g1
  obtain ⟨x,hxr⟩:=elem _ _ _ g2
  refine ⟨(x,cs'),hxr,gl,fun j u hju=>?_⟩
  have hj:j<cs'.length:=(List.getElem?_eq_some_iff.1 hju).1
  have:=gc j (by omega)
  rw [this]
  exact hju
 obtain ⟨X,hX⟩:=choose_lt val
 obtain ⟨x1,x2,x3⟩:=hX 0 h0
 have first:∃ u,W.cell? (a'.add 0)=some u:=by
  have hlt:0<(X 0).2.length:=by omega
  have:=x3 0 _ (List.getElem?_eq_getElem hlt)
  exact ⟨_,by simpa [Addr.add] using this⟩
 obtain ⟨u0,first⟩:=first
 obtain ⟨s1,s2⟩:=spot_of first
 have hspot:a'= ⟨a'.block,a'.off,none⟩:=by simpa [Addr.add] using s1
 have hblk:a'.block<W.heap.size:=by simpa [Addr.add] using s2
 refine ⟨(List.range len).map fun i=>(X i).1,by simp,by simpa using hl,by simpa using hlen,.inr ⟨a'.block,a'.off,((List.range len).map fun i=>(X i).2).flatten,by rw [<- hspot],fun h=>h,hblk,?_,At.flat (s:=k.sz) _ _ fun i hi=>?_⟩⟩
 ·have:∀ l:List Nat,(∀ i ∈ l,i<len)->k.Cs (fun _=>False) W (l.map fun i=>(X i).1) ((l.map fun i=>(X i).2).flatten):=by
   intro l
   induction l with
   | nil=>intro _;exact .nil
   | cons i l ih=>
    intro hl
    have:=Kd.Cs.cons (a:=k) (M:=fun _=>False) (w:=W) (hX i (hl i (by simp))).1 (ih fun q hq=>hl q (by simp [hq]))
    simpa using this
  exact this _ fun i hi=>List.mem_range.1 hi
 ·have hi':i<len:=by simpa using hi
  rw [List.getElem_map,List.getElem_range]
  obtain ⟨_,y2,y3⟩:=hX i hi'
  refine ⟨y2,fun j u hju=>?_⟩
  have:=y3 j u hju
  rw [hspot,add_add,add_plain] at this
  rw [Nat.add_assoc]
  exact this
section
variable {H:Type} {enc:TypeId×Value->H} {P:Program} {W:World} {t e:TypeId} {g0 g1 g2 g3 g4:Field} {a:Option Addr} {len cap B:Nat} {d:DataW H} {ps:List MemPlace}
theorem wts2 {ts:List TypeId} {ds:List (DataW H)} {j:Nat} {d:DataW H} (hsz:(DataW.weightsEach P ts ds).all (· <=reachBytes)=true) (ht:ts[j]? =some t) (hd:ds[j]? =some d):∀ n ∈ d.weights P t,n<=reachBytes:=fun n hn=>by
 simpa using List.all_eq_true.1 hsz n (DataW.weights_mem_each ht hd n hn)
theorem open_ints (hsz:∀ n ∈ d.weights P t,n<=reachBytes) (hu:P.underlying t=some (.slice e)) (ce:P.cellsOf e=1) (ie:P.underlying e=some (.int .i64)) (hB:P.bytesOf e=B) (hB1:1<=B)
  (h:DataW.Trod enc P W 0 (fun _=>true) true t (.slice a len cap) d ps):∃ xs:List Int,len=xs.length/\xs.length<=cap/\xs.length<=281474976710656/\Rd (Kd.int .i64) (fun _=>False) W a xs:=
 open_gen hsz hu ce (Nat.le_refl 1) hB hB1 (fun n cs y hy=>by
  obtain ⟨v,e0,_,w0⟩:=DataW.trod_int ie hy
  exact ⟨v,e0,lit_i64 w0⟩) h
theorem open_flows (hsz:∀ n ∈ d.weights P t,n<=reachBytes) (hu:P.underlying t=some (.slice e)) (he:P.underlying e=some (.struct #[g0,g1,g2,g3,g4])) (ce:P.cellsOf e=5)
  (o0:g0.offset=0) (o1:g1.offset=1) (o2:g2.offset=2) (o3:g3.offset=3) (o4:g4.offset=4) (c0:P.cellsOf g0.type=1) (c1:P.cellsOf g1.type=1) (c2:P.cellsOf g2.type=1) (c3:P.cellsOf g3.type=1) (c4:P.cellsOf g4.type=1)
  (i0:P.underlying g0.type=some (.int .i64)) (i1:P.underlying g1.type=some (.int .i64)) (i2:P.underlying g2.type=some (.int .i64)) (i3:P.underlying g3.type=some (.int .i64)) (i4:P.underlying g4.type=some (.int .i64)) (hB:P.bytesOf e=B) (hB1:1<=B)
  (h:DataW.Trod enc P W 0 (fun _=>true) true t (.slice a len cap) d ps):∃ xs:List api_Flow,len=xs.length/\xs.length<=cap/\xs.length<=281474976710656/\Rd k_api_Flow (fun _=>False) W a xs:=
 open_gen hsz hu ce (by decide) hB hB1 (fun n cs y hy=>by
  have hy0:=hy
  obtain ⟨xs,m,_,rfl,hl,hlen,hf⟩:=DataW.trod_struct he hy
  match xs,hlen with
  | [y0,y1,y2,y3,y4],_=>
   have q0:=hf 0 g0 rfl
   have q1:=hf 1 g1 rfl
   have q2:=hf 2 g2 rfl
   have q3:=hf 3 g3 rfl
   have q4:=hf 4 g4 rfl
   rw [o0,c0] at q0
   rw [o1,c1] at q1
   rw [o2,c2] at q2
   rw [o3,c3] at q3
   rw [o4,c4] at q4
   have hcl:cs.length=5:=by rw [<- ce];first | exact hl | exact hl.symm | simpa using hl
   match cs,hcl with
   | [v0,v1,v2,v3,v4],_=>
    obtain ⟨n0,e0,_,w0⟩:=DataW.trod_int i0 q0
    obtain ⟨n1,e1,_,w1⟩:=DataW.trod_int i1 q1
    obtain ⟨n2,e2,_,w2⟩:=DataW.trod_int i2 q2
    obtain ⟨n3,e3,_,w3⟩:=DataW.trod_int i3 q3
    obtain ⟨n4,e4,_,w4⟩:=DataW.trod_int i4 q4
    refine ⟨⟨n0,n1,n2,n3,n4⟩,?_,lit_i64 w0,lit_i64 w1,lit_i64 w2,lit_i64 w3,lit_i64 w4⟩
    simp at e0 e1 e2 e3 e4
    rw [e0,e1,e2,e3,e4]) h
end
end Go.Proofs.Ytgbmmbfminafnaa.E
