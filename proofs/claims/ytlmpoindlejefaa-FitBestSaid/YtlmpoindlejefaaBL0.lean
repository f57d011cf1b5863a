/- Joined. -/
import Derived.Test.YtlmpoindlejefaaBTK
import Derived.Deep.SlicePairs
import Derived.Deep.Strs
import Derived.SizedLaws
import Derived.WalkKit
import Derived.ProofKit
import Derived.OpenShut
import Derived.ShutString
import Derived.ChangeOld
import Derived.Below
import Derived.Carry
namespace Go.Proofs.Ytlmpoindlejefaa.E
open Go Go.RowKit Go.ChangeShapes Go.WideShapes Go.Deep
theorem zI1 {w:World} {a:Addr} {v:Value} (h:w.cell? a=some v):a= ⟨a.block,a.off,none⟩:=by
 obtain ⟨b,o,s⟩:=a
 unfold World.cell? at h
 split at h
 ·split at h
  ·cases h
  ·rename_i hs
   cases s with
   | none=>rfl
   | some x=>exact absurd rfl hs
 ·cases h
theorem cell_lt {w:World} {a:Addr} {v:Value} (h:w.cell? a=some v):a.block<w.heap.size:=by
 unfold World.cell? at h
 split at h
 ·rename_i hb
  exact (Array.getElem?_eq_some_iff.1 hb).1
 ·cases h
theorem zH9 {n:Int} (h:(Lit.int .i64 n).wf=true):InK .i64 n:=by
 have: -9223372036854775808<=n/\n<=9223372036854775807:=by
  simpa [Lit.wf,IntKind.min,IntKind.max,IntKind.bits,IntKind.signed] using h
 exact this
theorem zEh {H:Type} {enc:TypeId×Value->H} {P:Program} {W:World} {t e:TypeId} {f0 f1:Field} {a:Option Addr} {len cap:Nat} {d:DataW H} {ps:List MemPlace} {B:Nat}
  (hsz:∀ n ∈ d.weights P t,n<=reachBytes) (hu:P.underlying t=some (.slice e)) (he:P.underlying e=some (.struct #[f0,f1]))
  (ce:P.cellsOf e=2) (o0:f0.offset=0) (o1:f1.offset=1) (c0:P.cellsOf f0.type=1) (c1:P.cellsOf f1.type=1) (i0:P.underlying f0.type=some (.int .i64)) (i1:P.underlying f1.type=some (.int .i64)) (hB:P.bytesOf e=B) (hB1:1<=B)
  (h:DataW.Trod enc P W 0 (fun _=>true) true t (.slice a len cap) d ps):∃ xs:List zAC,len=xs.length/\xs.length<=cap/\xs.length<=281474976710656/\Rd zAA (fun _=>False) W a xs:=by
 obtain ⟨fuel,hf⟩:=h
 rcases open_slice_pairs hu he ce o0 o1 c0 c1 hf with ⟨hcs,_⟩ | ⟨a',l,c,m,n,V0,V1,D0,D1,P0,P1,hcs,_,hl,_,hm,hx,hc⟩
 ·simp [Value.cells] at hcs
  obtain ⟨rfl,rfl,rfl⟩:=hcs
  exact ⟨[],rfl,Nat.zero_le _,Nat.zero_le _,.inl rfl⟩
 ·simp [Value.cells] at hcs
  obtain ⟨rfl,rfl,rfl⟩:=hcs
  simp only [if_true] at hm
  subst hm
  have hlen:len<=281474976710656:=by
   obtain ⟨hx,_⟩:=Prod.mk.inj hx
   subst hx
   have z:=hsz _ (by simp only [DataW.weights,hu];exact List.mem_cons_self ..)
   rw [hB] at z
   simp only [List.length_map,List.length_range] at z
   have h1:=Nat.mul_le_mul_left (len+(m - len)) hB1
   have h2:reachBytes<2 ^ 47:=reachBytes_lt
   omega
  have val:∀ i,i<len->∃ x:zAC,V0 i= .int .i64 x.N/\V1 i= .int .i64 x.D/\InK .i64 x.N/\InK .i64 x.D:=by
   intro i hi
   obtain ⟨_,_,t0,t1⟩:=hc i (by omega)
   obtain ⟨n0,e0,_,w0⟩:=DataW.trod_int i0 t0
   obtain ⟨n1,e1,_,w1⟩:=DataW.trod_int i1 t1
   exact ⟨⟨n0,n1⟩,by simpa using e0,by simpa using e1,zH9 w0,zH9 w1⟩
  obtain ⟨X,hX⟩:=choose_lt val
  refine ⟨(List.range len).map X,by simp,by simpa using hl,by simpa using hlen,?_⟩
  rcases Nat.eq_zero_or_pos len with h0 | h0
  ·subst h0;exact .inl rfl
  ·right
   have first:=(hc 0 (by omega)).1
   have hspot:a'= ⟨a'.block,a'.off,none⟩:=by
    have:=zI1 first
    simpa [Addr.add] using this
   have hblk:a'.block<W.heap.size:=by
    have:=cell_lt first
    simpa [Addr.add] using this
   refine ⟨a'.block,a'.off,((List.range len).map fun i=>[V0 i,V1 i]).flatten,by rw [<- hspot],fun h=>h,hblk,?_,?_⟩
   ·have:∀ l:List Nat,(∀ i ∈ l,i<len)->zAA.Cs (fun _=>False) W (l.map X) ((l.map fun i=>[V0 i,V1 i]).flatten):=by
     intro l
     induction l with
     | nil=>intro _;exact .nil
     | cons i l ih=>
      intro hl
      obtain ⟨e0,e1,r0,r1⟩:=hX i (hl i (by simp))
      have:=Kd.Cs.cons (a:=zAA) (M:=fun _=>False) (w:=W) (x:=X i) (c:=[V0 i,V1 i]) (show zAA.R (fun _=>False) W (X i) [V0 i,V1 i] from ⟨by rw [e0,e1],r0,r1⟩) (ih fun k hk=>hl k (by simp [hk]))
      simpa using this
    exact this _ fun i hi=>List.mem_range.1 hi
   ·intro q u hq
    have hql:q<2*len:=by
     have:=(List.getElem?_eq_some_iff.1 hq).1
     have hs:((List.range len).map fun i=>[V0 i,V1 i]).flatten.length=len*2:=by
      have:∀ l:List Nat,((l.map fun i=>[V0 i,V1 i]).flatten).length=l.length*2:=by
       intro l
       induction l with
       | nil=>rfl
       | cons i l ih=>simp [ih];omega
      simpa using this (List.range len)
     omega
    have hflat:∀ (l:List Nat) (k:Nat),k<l.length->((l.map fun i=>[V0 i,V1 i]).flatten)[2*k]? =(l[k]?).map V0/\((l.map fun i=>[V0 i,V1 i]).flatten)[2*k+1]? =(l[k]?).map V1:=by
     intro l
     induction l with
     | nil=>intro k hk;simp at hk
     | cons i l ih=>
      intro k hk
      cases k with
      | zero=>simp
      | succ k=>
       have:=ih k (by simpa using hk)
       rw [show 2*(k+1)=2*k+1+1 by omega]
       simpa using this
    rw [hspot] at hc
    rcases Nat.mod_two_eq_zero_or_one q with e | e
    ·have hk:=hflat (List.range len) (q / 2) (by simp;omega)
     rw [show 2*(q / 2)=q by omega,hq] at hk
     rw [List.getElem?_range (by omega)] at hk
     have:=(hc (q / 2) (by omega)).1
     rw [add_plain,show q / 2*2=q by omega] at this
     rw [this]
     simpa using hk.1.symm
    ·have hk:=hflat (List.range len) (q / 2) (by simp;omega)
     rw [show 2*(q / 2)+1=q by omega,hq] at hk
     rw [List.getElem?_range (by omega)] at hk
     have:=(hc (q / 2) (by omega)).2.1
     rw [add_plain,show q / 2*2+1=q by omega] at this
     rw [this]
     simpa using hk.2.symm
theorem zG0 {H:Type} {enc:TypeId×Value->H} {P:Program} {W:World} {t e:TypeId} {f0 f1:Field} {a:Option Addr} {len cap:Nat} {d:DataW H} {ps:List MemPlace} {ts:List TypeId} {ds:List (DataW H)} {j:Nat} {B:Nat}
  (hsz:(DataW.weightsEach P ts ds).all (· <=reachBytes)=true) (ht:ts[j]? =some t) (hd:ds[j]? =some d) (hu:P.underlying t=some (.slice e)) (he:P.underlying e=some (.struct #[f0,f1]))
  (ce:P.cellsOf e=2) (o0:f0.offset=0) (o1:f1.offset=1) (c0:P.cellsOf f0.type=1) (c1:P.cellsOf f1.type=1) (i0:P.underlying f0.type=some (.int .i64)) (i1:P.underlying f1.type=some (.int .i64)) (hB:P.bytesOf e=B) (hB1:1<=B)
  (h:DataW.Trod enc P W 0 (fun _=>true) true t (.slice a len cap) d ps):∃ xs:List zAC,len=xs.length/\xs.length<=cap/\xs.length<=281474976710656/\Rd zAA (fun _=>False) W a xs:=
 zEh (fun n hn=>by simpa using List.all_eq_true.1 hsz n (DataW.weights_mem_each ht hd n hn)) hu he ce o0 o1 c0 c1 i0 i1 hB hB1 h
theorem three {cs:Array Value} (h:cs.size=3):∃ u0 u1 u2,cs= #[u0,u1,u2]:=by
 obtain ⟨l⟩:=cs
 have h:l.length=3:=h
 match l,h with
 | [u0,u1,u2],_=>exact ⟨u0,u1,u2,rfl⟩
theorem open_mat {H:Type} {enc:TypeId×Value->H} {P:Program} {W:World} {t e:TypeId} {g0 g1 g2 f0 f1:Field} {v0 v1 v2:Value} {d:DataW H} {ps:List MemPlace} {ts:List TypeId} {ds:List (DataW H)} {j:Nat} {B:Nat}
  (hsz:(DataW.weightsEach P ts ds).all (· <=reachBytes)=true) (ht:ts[j]? =some t) (hd:ds[j]? =some d) (hs:P.underlying t=some (.struct #[g0,g1,g2])) (k0:g0.offset=0) (k1:g1.offset=1) (k2:g2.offset=2) (l0:P.cellsOf g0.type=1) (l1:P.cellsOf g1.type=1) (l2:P.cellsOf g2.type=1)
  (n0:P.underlying g0.type=some (.int .i64)) (n1:P.underlying g1.type=some (.int .i64)) (hu:P.underlying g2.type=some (.slice e)) (he:P.underlying e=some (.struct #[f0,f1]))
  (ce:P.cellsOf e=2) (o0:f0.offset=0) (o1:f1.offset=1) (c0:P.cellsOf f0.type=1) (c1:P.cellsOf f1.type=1) (i0:P.underlying f0.type=some (.int .i64)) (i1:P.underlying f1.type=some (.int .i64)) (hB:P.bytesOf e=B) (hB1:1<=B)
  (h:DataW.Trod enc P W 0 (fun _=>true) true t (.agg #[v0,v1,v2]) d ps):∃ (m:zAh) (a:Option Addr) (cap:Nat),v0= .int .i64 m.R/\v1= .int .i64 m.C/\v2= .slice a m.V.length cap/\InK .i64 m.R/\InK .i64 m.C/\m.V.length<=cap/\m.V.length<=281474976710656/\Rd zAA (fun _=>False) W a m.V:=by
 have hsz':∀ n ∈ d.weights P t,n<=reachBytes:=fun n hn=>by simpa using List.all_eq_true.1 hsz n (DataW.weights_mem_each ht hd n hn)
 obtain ⟨fuel,hf⟩:=h
 obtain ⟨y0,y1,y2,n,hx,_,q0,q1,q2⟩:=trod_struct3 hs hf
 rw [k0,l0] at q0
 rw [k1,l1] at q1
 rw [k2,l2] at q2
 have q0:DataW.trod enc P W 0 (fun _=>true) true n g0.type [v0] =some y0:=q0
 have q1:DataW.trod enc P W 0 (fun _=>true) true n g1.type [v1] =some y1:=q1
 have q2:DataW.trod enc P W 0 (fun _=>true) true n g2.type [v2] =some y2:=q2
 obtain ⟨r,e0,_,w0⟩:=DataW.trod_int n0 q0
 obtain ⟨c,e1,_,w1⟩:=DataW.trod_int n1 q1
 have e0:v0= .int .i64 r:=by simpa using e0
 have e1:v1= .int .i64 c:=by simpa using e1
 obtain ⟨rfl,_⟩:=Prod.mk.inj hx
 obtain ⟨a,len,cap,rfl⟩:∃ a len cap,v2= .slice a len cap:=by
  rcases open_slice hu q2 with ⟨hcs,_⟩ | ⟨a',l,c,_,_,_,_,hcs,_⟩
  ·exact ⟨none,0,0,by simpa using hcs⟩
  ·exact ⟨some a',l,c,by simpa using hcs⟩
 have hw:∀ n ∈ y2.1.weights P g2.type,n<=reachBytes:=fun n hn=>hsz' n (by
  simp only [DataW.weights,hs,DataW.weightsEach,List.map,List.mem_append]
  exact .inr (.inr (.inl hn)))
 obtain ⟨xs,rfl,hc,hb,hR⟩:=zEh (ps:=y2.2) hw hu he ce o0 o1 c0 c1 i0 i1 hB hB1 ⟨n,q2⟩
 exact ⟨⟨r,c,xs⟩,a,cap,e0,e1,rfl,zH9 w0,zH9 w1,hc,hb,hR⟩
end Go.Proofs.Ytlmpoindlejefaa.E
namespace Go.Proofs.Ytlmpoindlejefaa.E
open Go Go.RowKit Go.ChangeShapes Go.WideShapes Go.Deep
section
variable {H:Type} {enc:TypeId×Value->H} {P:Program} {W:World} {t e:TypeId} {g0 g1 g2 g3 g4 f0 f1:Field} {v0 v1 v2 v3 v4 v5 v6 v7:Value} {B fuel:Nat}
theorem wts {ts:List TypeId} {ds:List (DataW H)} {j:Nat} {d:DataW H} (hsz:(DataW.weightsEach P ts ds).all (· <=reachBytes)=true) (ht:ts[j]? =some t) (hd:ds[j]? =some d):∀ n ∈ d.weights P t,n<=reachBytes:=fun n hn=>by
 simpa using List.all_eq_true.1 hsz n (DataW.weights_mem_each ht hd n hn)
theorem zFq {y:DataW H×List MemPlace} (hsz:∀ n ∈ y.1.weights P t,n<=reachBytes) (hu:P.underlying t=some (.slice e)) (he:P.underlying e=some (.struct #[f0,f1]))
  (ce:P.cellsOf e=2) (o0:f0.offset=0) (o1:f1.offset=1) (c0:P.cellsOf f0.type=1) (c1:P.cellsOf f1.type=1) (i0:P.underlying f0.type=some (.int .i64)) (i1:P.underlying f1.type=some (.int .i64)) (hB:P.bytesOf e=B) (hB1:1<=B)
  (h:DataW.trod enc P W 0 (fun _=>true) true fuel t [v2] =some y):∃ (xs:List zAC) (a:Option Addr) (cap:Nat),v2= .slice a xs.length cap/\xs.length<=cap/\xs.length<=281474976710656/\Rd zAA (fun _=>False) W a xs:=by
 obtain ⟨a,len,cap,rfl⟩:∃ a len cap,v2= .slice a len cap:=by
  rcases open_slice hu h with ⟨hcs,_⟩ | ⟨a',l,c,_,_,_,_,hcs,_⟩
  ·exact ⟨none,0,0,by simpa using hcs⟩
  ·exact ⟨some a',l,c,by simpa using hcs⟩
 obtain ⟨xs,rfl,hc,hb,hR⟩:=zEh (ps:=y.2) hsz hu he ce o0 o1 c0 c1 i0 i1 hB hB1 ⟨fuel,h⟩
 exact ⟨xs,a,cap,rfl,hc,hb,hR⟩
theorem two {cs:Array Value} (h:cs.size=2):∃ u0 u1,cs= #[u0,u1]:=by
 obtain ⟨l⟩:=cs
 have h:l.length=2:=h
 match l,h with
 | [u0,u1],_=>exact ⟨u0,u1,rfl⟩
end
end Go.Proofs.Ytlmpoindlejefaa.E
namespace Go.Proofs.Ytlmpoindlejefaa.E
open Go Go.RowKit Go.ChangeShapes Go.WideShapes Go.Deep
section
variable {H:Type} {enc:TypeId×Value->H} {P:Program} {W:World} {t e:TypeId} {g0 g1 f0 f1:Field} {v0 v1:Value} {B:Nat}
theorem zHx {d:DataW H} {ps:List MemPlace} {ts:List TypeId} {ds:List (DataW H)} {j:Nat}
  (hsz:(DataW.weightsEach P ts ds).all (· <=reachBytes)=true) (ht:ts[j]? =some t) (hd:ds[j]? =some d) (hs:P.underlying t=some (.struct #[g0,g1])) (k0:g0.offset=0) (k1:g1.offset=1) (l0:P.cellsOf g0.type=1) (l1:P.cellsOf g1.type=1)
  (hu0:P.underlying g0.type=some (.slice e)) (hu1:P.underlying g1.type=some (.slice e)) (he:P.underlying e=some (.struct #[f0,f1]))
  (ce:P.cellsOf e=2) (o0:f0.offset=0) (o1:f1.offset=1) (c0:P.cellsOf f0.type=1) (c1:P.cellsOf f1.type=1) (i0:P.underlying f0.type=some (.int .i64)) (i1:P.underlying f1.type=some (.int .i64)) (hB:P.bytesOf e=B) (hB1:1<=B)
  (h:DataW.Trod enc P W 0 (fun _=>true) true t (.agg #[v0,v1]) d ps):∃ (l:zAm) (a0 a1:Option Addr) (cap0 cap1:Nat),v0= .slice a0 l.Lo.length cap0/\v1= .slice a1 l.Hi.length cap1/\(l.Lo.length<=cap0/\l.Lo.length<=281474976710656/\Rd zAA (fun _=>False) W a0 l.Lo)/\(l.Hi.length<=cap1/\l.Hi.length<=281474976710656/\Rd zAA (fun _=>False) W a1 l.Hi):=by
 have hsz':=wts hsz ht hd
 obtain ⟨fuel,hf⟩:=h
 obtain ⟨y0,y1,n,hx,_,q0,q1⟩:=trod_struct2 hs hf
 rw [k0,l0] at q0
 rw [k1,l1] at q1
 have q0:DataW.trod enc P W 0 (fun _=>true) true n g0.type [v0] =some y0:=q0
 have q1:DataW.trod enc P W 0 (fun _=>true) true n g1.type [v1] =some y1:=q1
 obtain ⟨rfl,_⟩:=Prod.mk.inj hx
 have hw0:∀ n ∈ y0.1.weights P g0.type,n<=reachBytes:=fun n hn=>hsz' n (by
  simp only [DataW.weights,hs,DataW.weightsEach,List.map,List.mem_append]
  exact .inl hn)
 have hw1:∀ n ∈ y1.1.weights P g1.type,n<=reachBytes:=fun n hn=>hsz' n (by
  simp only [DataW.weights,hs,DataW.weightsEach,List.map,List.mem_append]
  exact .inr (.inl hn))
 obtain ⟨xs,a0,cap0,e0,h0⟩:=zFq hw0 hu0 he ce o0 o1 c0 c1 i0 i1 hB hB1 q0
 obtain ⟨ys,a1,cap1,e1,h1⟩:=zFq hw1 hu1 he ce o0 o1 c0 c1 i0 i1 hB hB1 q1
 exact ⟨⟨xs,ys⟩,a0,a1,cap0,cap1,e0,e1,h0,h1⟩
end
end Go.Proofs.Ytlmpoindlejefaa.E
