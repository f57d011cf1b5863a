/- Rows of pairs of ints, as the statement hands them in. -/
import Derived.Test.YtlmpoindlejefaaGreatATK
import Derived.Deep.SlicePairs
import Derived.Deep.Strs
import Derived.SizedLaws
import Derived.WalkKit
import Derived.ProofKit
import Derived.OpenShut
import Derived.ShutString
import Derived.ChangeOld
import Derived.Below
import Derived.Carry
namespace Go.Proofs.YtlmpoindlejefaaGreat.E
open Go Go.RowKit Go.ChangeShapes Go.WideShapes Go.Deep
theorem cell_spot {w:World} {a:Addr} {v:Value} (h:w.cell? a=some v):a= ⟨a.block,a.off,none⟩:=by
 obtain ⟨b,o,s⟩:=a
 unfold World.cell? at h
 split at h
 ·split at h
  ·cases h
  ·rename_i hs
   cases s with
   | none=>rfl
   | some x=>exact absurd rfl hs
 ·cases h
theorem cell_lt {w:World} {a:Addr} {v:Value} (h:w.cell? a=some v):a.block<w.heap.size:=by
 unfold World.cell? at h
 split at h
 ·rename_i hb
  exact (Array.getElem?_eq_some_iff.1 hb).1
 ·cases h
theorem wf_i64 {n:Int} (h:(Lit.int .i64 n).wf=true):InK .i64 n:=by
 have: -9223372036854775808<=n/\n<=9223372036854775807:=by
  simpa [Lit.wf,IntKind.min,IntKind.max,IntKind.bits,IntKind.signed] using h
 exact this
theorem open_pairs_w {H:Type} {enc:TypeId×Value->H} {P:Program} {W:World} {t e:TypeId} {f0 f1:Field} {a:Option Addr} {len cap:Nat} {d:DataW H} {ps:List MemPlace} {B:Nat}
  (hsz:∀ n ∈ d.weights P t,n<=reachBytes) (hu:P.underlying t=some (.slice e)) (he:P.underlying e=some (.struct #[f0,f1]))
  (ce:P.cellsOf e=2) (o0:f0.offset=0) (o1:f1.offset=1) (c0:P.cellsOf f0.type=1) (c1:P.cellsOf f1.type=1) (i0:P.underlying f0.type=some (.int .i64)) (i1:P.underlying f1.type=some (.int .i64)) (hB:P.bytesOf e=B) (hB1:1<=B)
  (h:DataW.Trod enc P W 0 (fun _=>true) true t (.slice a len cap) d ps):∃ xs:List api_Rat,len=xs.length/\xs.length<=cap/\xs.length<=281474976710656/\Rd k_api_Rat (fun _=>False) W a xs:=by
 obtain ⟨fuel,hf⟩:=h
 rcases open_slice_pairs hu he ce o0 o1 c0 c1 hf with ⟨hcs,_⟩ | ⟨a',l,c,m,n,V0,V1,D0,D1,P0,P1,hcs,_,hl,_,hm,hx,hc⟩
 ·simp [Value.cells] at hcs
  obtain ⟨rfl,rfl,rfl⟩:=hcs
  exact ⟨[],rfl,Nat.zero_le _,Nat.zero_le _,.inl rfl⟩
 ·simp [Value.cells] at hcs
  obtain ⟨rfl,rfl,rfl⟩:=hcs
  simp only [if_true] at hm
  subst hm
  have hlen:len<=281474976710656:=by
   obtain ⟨hx,_⟩:=Prod.mk.inj hx
   subst hx
   have z:=hsz _ (by simp only [DataW.weights,hu];exact List.mem_cons_self ..)
   rw [hB] at z
   simp only [List.length_map,List.length_range] at z
   have h1:=Nat.mul_le_mul_left (len+(m - len)) hB1
   have h2:reachBytes<2 ^ 47:=reachBytes_lt
   omega
  have val:∀ i,i<len->∃ x:api_Rat,V0 i= .int .i64 x.N/\V1 i= .int .i64 x.D/\InK .i64 x.N/\InK .i64 x.D:=by
   intro i hi
   obtain ⟨_,_,t0,t1⟩:=hc i (by omega)
   obtain ⟨n0,e0,_,w0⟩:=DataW.trod_int i0 t0
   obtain ⟨n1,e1,_,w1⟩:=DataW.trod_int i1 t1
   exact ⟨⟨n0,n1⟩,by simpa using e0,by simpa using e1,wf_i64 w0,wf_i64 w1⟩
  obtain ⟨X,hX⟩:=choose_lt val
  refine ⟨(List.range len).map X,by simp,by simpa using hl,by simpa using hlen,?_⟩
  rcases Nat.eq_zero_or_pos len with h0 | h0
  ·subst h0;exact .inl rfl
  ·right
   have first:=(hc 0 (by omega)).1
   have hspot:a'= ⟨a'.block,a'.off,none⟩:=by
    have:=cell_spot first
    simpa [Addr.add] using this
   have hblk:a'.block<W.heap.size:=by
    have:=cell_lt first
    simpa [Addr.add] using this
   refine ⟨a'.block,a'.off,((List.range len).map fun i=>[V0 i,V1 i]).flatten,by rw [<- hspot],fun h=>h,hblk,?_,?_⟩
   ·have:∀ l:List Nat,(∀ i ∈ l,i<len)->k_api_Rat.Cs (fun _=>False) W (l.map X) ((l.map fun i=>[V0 i,V1 i]).flatten):=by
     intro l
     induction l with
     | nil=>intro _;exact .nil
     | cons i l ih=>
      intro hl
      obtain ⟨e0,e1,r0,r1⟩:=hX i (hl i (by simp))
      have:=Kd.Cs.cons (a:=k_api_Rat) (M:=fun _=>False) (w:=W) (x:=X i) (c:=[V0 i,V1 i]) (show k_api_Rat.R (fun _=>False) W (X i) [V0 i,V1 i] from ⟨by rw [e0,e1],r0,r1⟩) (ih fun k hk=>hl k (by simp [hk]))
      simpa using this
    exact this _ fun i hi=>List.mem_range.1 hi
   ·intro q u hq
    have hql:q<2*len:=by
     have:=(List.getElem?_eq_some_iff.1 hq).1
     have hs:((List.range len).map fun i=>[V0 i,V1 i]).flatten.length=len*2:=by
      have:∀ l:List Nat,((l.map fun i=>[V0 i,V1 i]).flatten).length=l.length*2:=by
       intro l
       induction l with
       | nil=>rfl
       | cons i l ih=>simp [ih];omega
      simpa using this (List.range len)
     omega
    have hflat:∀ (l:List Nat) (k:Nat),k<l.length->((l.map fun i=>[V0 i,V1 i]).flatten)[2*k]? =(l[k]?).map V0/\((l.map fun i=>[V0 i,V1 i]).flatten)[2*k+1]? =(l[k]?).map V1:=by
     intro l
     induction l with
     | nil=>intro k hk;simp at hk
     | cons i l ih=>
      intro k hk
      cases k with
      | zero=>simp
      | succ k=>
       have:=ih k (by simpa using hk)
       rw [show 2*(k+1)=2*k+1+1 by omega]
       simpa using this
    rw [hspot] at hc
    rcases Nat.mod_two_eq_zero_or_one q with e | e
    ·have hk:=hflat (List.range len) (q / 2) (by simp;omega)
     rw [show 2*(q / 2)=q by omega,hq] at hk
     rw [List.getElem?_range (by omega)] at hk
     have:=(hc (q / 2) (by omega)).1
     rw [add_plain,show q / 2*2=q by omega] at this
     rw [this]
     simpa using hk.1.symm
    ·have hk:=hflat (List.range len) (q / 2) (by simp;omega)
     rw [show 2*(q / 2)+1=q by omega,hq] at hk
     rw [List.getElem?_range (by omega)] at hk
     have:=(hc (q / 2) (by omega)).2.1
     rw [add_plain,show q / 2*2+1=q by omega] at this
     rw [this]
     simpa using hk.2.symm
theorem three {cs:Array Value} (h:cs.size=3):∃ u0 u1 u2,cs= #[u0,u1,u2]:=by
 obtain ⟨l⟩:=cs
 have h:l.length=3:=h
 match l,h with
 | [u0,u1,u2],_=>exact ⟨u0,u1,u2,rfl⟩
end Go.Proofs.YtlmpoindlejefaaGreat.E
