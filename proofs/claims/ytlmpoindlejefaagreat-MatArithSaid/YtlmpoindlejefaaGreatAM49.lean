/- Joined. -/
import Derived.Test.YtlmpoindlejefaaGreatAM46
import Derived.Test.YtlmpoindlejefaaGreatAM30
import Derived.Test.YtlmpoindlejefaaGreatAM17
set_option linter.unusedVariables false
set_option linter.unusedSimpArgs false
namespace Go.Proofs.YtlmpoindlejefaaGreat.E
open Go Go.RowKit
def okM (m:api_Mat) (b:List api_Rat):Prop:=matOk m/\∀ r ∈ b,valid r
theorem mat_system_run {m:api_Mat} {b:List api_Rat} {Q:Int->Prop} (hl:m.V.length<=281474976710656) (hb:b.length<=281474976710656) (h0:okM m b->(b.length:Int)=m.R->Q 0) (h1: ¬ okM m b->Q 1) (h8:okM m b->(b.length:Int)≠m.R->Q 8):(mat_system.f m b).run Q:=by
 unfold mat_system.f
 refine W.bd (mat_Validate_run hl (fun c=>?_) (fun c=>?_))
 ·rw [if_neg (by decide)]
  refine W.bd (num_AllValid_run hb (W.run_if (fun c2=>?_) (fun c2=>h1 fun h=>c2 (decide_eq_true h.2))))
  have ok:okM m b:=⟨c,of_decide_eq_true c2⟩
  exact W.run_if (fun c3=>h8 ok c3) (fun c3=>h0 ok (by omega))
 ·rw [if_pos (by decide)]
  exact h1 fun h=>c h.1
theorem mat_cd {v b:List api_Rat} {r c:Nat} (hr:r<=12) (hc:c<=12) (hv:∀ j i,j<r->i<c->valid (gd v (j*c+i))) (hb:∀ j,j<r->valid (gd b j)):∃ d:Int,d≠0/\Bt 6300 d/\(∀ i k,i<r->k<c->Fd d 6300 (mxv v c i k))/\∀ i,i<r->Fd d 6300 (ratOf (gd b i)):=by
 obtain ⟨d1,a0,a1,a2⟩:=cd_list (fun k=>gd v k) (r*c) fun k hk=>by
  have hc0:0<c:=Nat.pos_of_ne_zero fun e=>by rw [e] at hk;simp at hk
  have h1:k / c<r:=Nat.div_lt_of_lt_mul (by rw [Nat.mul_comm];exact hk)
  have:=hv (k / c) (k % c) h1 (Nat.mod_lt _ hc0)
  rwa [Nat.mul_comm,Nat.div_add_mod] at this
 obtain ⟨d2,b0,b1,b2⟩:=cd_list (fun k=>gd b k) r hb
 have hrc:r*c<=12*12:=Nat.mul_le_mul hr hc
 refine ⟨d1*d2,Int.mul_ne_zero a0 b0,Bt.mono (Bt.mul a1 b1) (by omega),fun j i hj hi=>((a2 _ (at_lt hj hi)).up a0 b0 b1).mono (by omega),fun j hj=>?_⟩
 have:=(b2 j hj).up (e:=d1) b0 a0 a1
 rw [Int.mul_comm] at this
 exact this.mono (by omega)
theorem szC_M {s n:Nat} (hs:s<=6300) (hn:n<=12):szC s n<=25900000:=by
 have h1:=szC_mono s hn
 have h2:szC s 12<=25900000:=by simp only [szC];omega
 omega
def rowsT (n c:Nat) (F:Nat->Nat->Rat):List (List api_Rat):=(List.range n).map fun a=>tolds c (F a)
theorem rowsT_succ (n c:Nat) (F:Nat->Nat->Rat):rowsT (n+1) c F=rowsT n c F ++ [tolds c (F n)]:=by simp [rowsT,List.range_succ]
theorem rowsT_len (n c:Nat) (F:Nat->Nat->Rat):(rowsT n c F).length=n:=by simp [rowsT]
theorem rowsT_congr {n c:Nat} {F G:Nat->Nat->Rat} (h:∀ a i,a<n->i<c->F a i=G a i):rowsT n c F=rowsT n c G:=by
 unfold rowsT
 exact List.map_congr_left fun a ha=>tolds_congr fun i hi=>h a i (List.mem_range.1 ha) hi
abbrev ToldS:=List api_Rat×List (List api_Rat)×Int
abbrev krs (M:Nat->Nat->Rat) (piv:List Int) (c:Nat):Nat->Nat->Rat:=fun a=>kv M piv (gd (freeL piv c) a)
theorem allTold_congr {n:Nat} {x y:Nat->Rat} (h:∀ i,i<n->x i=y i):allTold n x ↔ allTold n y:=⟨fun k i hi=>by rw [<- h i hi];exact k i hi,fun k i hi=>by rw [h i hi];exact k i hi⟩
def toldS (c:Nat) (M:Nat->Nat->Rat) (piv:List Int) (o:ToldS):Prop:=
 (allTold c (xvp M piv c piv.length)/\∀ a,a<(freeL piv c).length->allTold c (krs M piv c a))/\o=(tolds c (xvp M piv c piv.length),rowsT (freeL piv c).length c (krs M piv c),0)\/¬ (allTold c (xvp M piv c piv.length)/\∀ a,a<(freeL piv c).length->allTold c (krs M piv c a))/\o=([],[],3)
def SolG (r c:Nat) (A:Nat->Nat->Rat) (V:Nat->Rat) (o:ToldS):Prop:=
 (∃ piv M,Red r (c+1) (augM c A V) M c piv/\(∀ i,piv.length<=i->i<r->M i c=0)/\toldS c M piv o)\/(¬ ∃ x:Nat->Rat,∀ i,i<r->dz c (A i) x=V i)/\o=([],[],4)
theorem gd_inL {l:List Nat} {i:Nat} (h:i<l.length):gd l i ∈ l:=by rw [gd_lt h];exact List.getElem_mem h
theorem SolG.uniq {r c:Nat} {A:Nat->Nat->Rat} {V:Nat->Rat} {o p:ToldS} (h:SolG r c A V o) (k:SolG r c A V p):o=p:=by
 rcases h with ⟨piv,M,h1,h2,h3⟩ | ⟨h1,rfl⟩
 ·rcases k with ⟨piv',M',k1,k2,k3⟩ | ⟨k1,_⟩
  ·have e1:=h1.freeL_same k1
   have e2:=h1.xvp_same k1 h2 k2
   have e3:∀ a i,a<(freeL piv c).length->i<c->krs M piv c a i=krs M' piv' c a i:=fun a i ha hi=>by
    obtain ⟨g1,g2⟩:=freeL_mem.1 (gd_inL ha)
    unfold krs
    rw [<- e1]
    exact h1.kv_same k1 g1 g2 i hi
   have e4:(allTold c (xvp M piv c piv.length)/\∀ a,a<(freeL piv c).length->allTold c (krs M piv c a)) ↔ (allTold c (xvp M' piv' c piv'.length)/\∀ a,a<(freeL piv' c).length->allTold c (krs M' piv' c a)):=by
    rw [allTold_congr e2,<- e1]
    exact ⟨fun ⟨q1,q2⟩=>⟨q1,fun a ha=>(allTold_congr fun i hi=>e3 a i ha hi).1 (q2 a ha)⟩,fun ⟨q1,q2⟩=>⟨q1,fun a ha=>(allTold_congr fun i hi=>e3 a i ha hi).2 (q2 a ha)⟩⟩
   unfold toldS at h3 k3
   rw [e4,tolds_congr e2,rowsT_congr e3,e1] at h3
   rcases h3 with ⟨c1,rfl⟩ | ⟨c1,rfl⟩
   ·rcases k3 with ⟨c2,rfl⟩ | ⟨c2,rfl⟩
    ·rfl
    ·exact absurd c1 c2
   ·rcases k3 with ⟨c2,rfl⟩ | ⟨c2,rfl⟩
    ·exact absurd c2 c1
    ·rfl
  ·exact absurd (h1.none_iff.1 h2) k1
 ·rcases k with ⟨piv',M',k1,k2,k3⟩ | ⟨k1,rfl⟩
  ·exact absurd (k1.none_iff.1 k2) h1
  ·rfl
def solR (m:api_Mat) (b:List api_Rat) (o:ToldS):Prop:=
 ¬ okM m b/\o=([],[],1)\/okM m b/\(b.length:Int)≠m.R/\o=([],[],8)\/∃ r c:Nat,okM m b/\m.R=r/\m.C=c/\b.length=r/\SolG r c (mxv m.V c) (fun i=>ratOf (gd b i)) o
theorem solR.uniq {m:api_Mat} {b:List api_Rat} {o p:ToldS} (hx:solR m b o) (hy:solR m b p):o=p:=by
 rcases hx with ⟨a1,rfl⟩ | ⟨a1,a2,rfl⟩ | ⟨r,c,a1,a2,a3,a4,a5⟩
 ·rcases hy with ⟨b1,rfl⟩ | ⟨b1,b2,rfl⟩ | ⟨r',c',b1,b2,b3,b4,b5⟩ <;> first | rfl | exact absurd b1 a1
 ·rcases hy with ⟨b1,rfl⟩ | ⟨b1,b2,rfl⟩ | ⟨r',c',b1,b2,b3,b4,b5⟩ <;> first | rfl | exact absurd a1 b1 | omega
 ·rcases hy with ⟨b1,rfl⟩ | ⟨b1,b2,rfl⟩ | ⟨r',c',b1,b2,b3,b4,b5⟩
  ·exact absurd a1 b1
  ·omega
  ·obtain rfl:r=r':=by omega
   obtain rfl:c=c':=by omega
   exact a5.uniq b5
section
variable {m:api_Mat} {b:List api_Rat} {Q:ToldS->Prop}
theorem mat_Solve_rel (hl:m.V.length<=281474976710656) (hb:b.length<=281474976710656) (H:∀ o,solR m b o->Q o):(mat_Solve.f m b).run Q:=by
 unfold mat_Solve.f
 refine W.bd (mat_system_run hl hb (fun ok hlen=>?_) (fun c=>?_) (fun ok c=>?_))
 rotate_left
 ·rw [if_pos (by decide)];exact H _ (.inl ⟨c,rfl⟩)
 ·rw [if_pos (by decide)];exact H _ (.inr (.inl ⟨ok,c,rfl⟩))
 rw [if_neg (by decide)]
 have o1:=ok.1.1
 have o2:=ok.1.2.1
 obtain ⟨r,hR⟩:=Int.eq_ofNat_of_zero_le o1.1
 obtain ⟨c,hC⟩:=Int.eq_ofNat_of_zero_le o2.1
 have hbl:b.length=r:=by omega
 have hr:r<=12:=by omega
 have hc:c<=12:=by omega
 have hv:=(ok.1.at hR hC).2
 have vb:∀ j,j<r->valid (gd b j):=fun j hj=>(all_valid_iff b).1 ok.2 j (by omega)
 have K:∀ o,SolG r c (mxv m.V c) (fun i=>ratOf (gd b i)) o->Q o:=fun o ho=>H o (.inr (.inr ⟨r,c,ok,hR,hC,hbl,ho⟩))
 obtain ⟨d,d0,d1,d2,d3⟩:=mat_cd hr hc hv vb
 have hsz:=szC_M (Nat.le_refl 6300) hc
 have hdt:c*szC 6300 c<=12*25900000:=Nat.mul_le_mul hc hsz
 refine W.bd (qm_Of_run ok.1 hR hC fun x hx1 hx2=>W.bd (num_In_run hbl (by omega) (fun k hk=>⟨vb k hk,rfl⟩) fun B hB=>W.bd (qm_Solve_gen (Z:=fun k N=>CdM r (c+1) (szC 6300 k) N) (t:=szC 6300 c) hx1 hx2 hB (by omega) (by omega) (by omega) (by omega) (CdM.mk' d0 d1 (Nat.le_refl _) (augM_all d2 d3)) Grows.cd (fun piv M' xs ker q1 q2 q3 q4=>?_) (fun piv M' i q1 q2 q3 q4=>?_))))
 ·rw [if_pos rfl]
  have hfl:=freeL_len piv c
  have hkl:=q4.1
  refine W.bd (num_Outs_run q3 (by omega) (fun t=>?_) (fun t=>?_))
  ·rw [if_pos rfl]
   refine W.loop_c (fun s:List (List api_Rat)×Int=>∃ i:Nat,s.2=i/\i<=(freeL piv c).length/\s.1=rowsT i c (krs M' piv c)/\∀ a,a<i->allTold c (krs M' piv c a)) (fun s=>(freeL piv c).length - s.2.toNat) ⟨0,rfl,Nat.zero_le _,rfl,fun a ha=>by omega⟩ ?_
   rintro ⟨rows,_⟩ P ⟨i,rfl,hi,rfl,h2⟩ hgo hbrk hout
   simp only at h2 hgo |-
   have hrl:=rowsT_len i c (krs M' piv c)
   unfold mat_Solve.l1
   simp only [gi_gd,hkl]
   refine W.run_if (fun c1=>W.req_i (by omega) (W.bd (num_Outs_run (q4.2 i (by omega)) (by omega) (fun t2=>?_) (fun t2=>?_)))) (fun c1=>hbrk _ ?_)
   ·rw [if_pos rfl]
    refine W.req_i (by omega) (hgo _ ⟨i+1,by simp,by omega,(rowsT_succ _ _ _).symm,fun a ha=>?_⟩ (by simp;omega))
    by_cases e:a=i
    ·rw [e];exact t2
    ·exact h2 a (by omega)
   ·rw [if_neg (by simp)]
    exact hout _ (K _ (.inl ⟨piv,M',q1,q2,.inr ⟨fun h=>t2 (h.2 i (by omega)),rfl⟩⟩))
   ·obtain rfl:i=(freeL piv c).length:=by omega
    unfold mat_Solve.j1
    exact K _ (.inl ⟨piv,M',q1,q2,.inl ⟨⟨t,h2⟩,rfl⟩⟩)
  ·rw [if_neg (by simp)]
   exact K _ (.inl ⟨piv,M',q1,q2,.inr ⟨fun h=>t h.1,rfl⟩⟩)
 ·rw [if_neg (by simp)]
  exact K _ (.inr ⟨fun h=>q4 (q1.none_iff.2 h i q2 q3),rfl⟩)
end
end Go.Proofs.YtlmpoindlejefaaGreat.E
namespace Go.Proofs.YtlmpoindlejefaaGreat.E
open Go Go.RowKit
end Go.Proofs.YtlmpoindlejefaaGreat.E
namespace Go.Proofs.YtlmpoindlejefaaGreat.E
open Go Go.RowKit
section
variable {m:api_Mat} {b:List api_Rat}
end
theorem ref02_Same_refl {l:List api_Rat} {Q:Bool->Prop} (H:Q true):(ref02_Same.f l l).run Q:=by
 unfold ref02_Same.f
 refine W.loop_c (fun p=>∃ i:Nat,p=i/\i<=l.length) (fun p=>l.length - p.toNat) ⟨0,rfl,Nat.zero_le _⟩ ?_
 rintro _ P ⟨i,rfl,hi⟩ hgo hbrk hout
 have fin:(ref02_Same.j1 l l).run Q:=by unfold ref02_Same.j1;rw [decide_eq_true rfl];exact H
 unfold ref02_Same.l1
 refine W.run_if (fun c=>W.run_if (fun c2=>W.req_i (by omega) (W.req_i (by omega) ?_)) (fun c2=>hbrk _ fin)) (fun c=>hbrk _ fin)
 rw [if_pos (by simp)]
 exact hgo _ ⟨i+1,by simp,by omega⟩ (by omega)
theorem ratOf_int (n:Int):ratOf ⟨n,1⟩ =(n:Rat):=by unfold ratOf;rw [Rat.divInt_eq_div];grind
theorem toldR_int {n:Int} (h: -1000000000000<=n/\n<=1000000000000):toldR (n:Rat)=(⟨n,1⟩,true):=by
 unfold toldR
 rw [Rat.num_intCast,Rat.den_intCast,if_pos ⟨h.1,h.2,by decide⟩]
 rfl
def mX:api_Mat:=⟨2,2,[⟨1,1⟩,⟨2,1⟩,⟨2,1⟩,⟨4,1⟩]⟩
def bX:List api_Rat:=[⟨3,1⟩,⟨6,1⟩]
theorem okX:okM mX bX:=by
 have v:∀ n:Int,-1000000000000<=n->n<=1000000000000->valid ⟨n,1⟩:=fun n h1 h2=>⟨(by decide:(1:Int)<=1),(by decide:(1:Int)<=1000000000000),h1,h2,by simp⟩
 refine ⟨⟨by decide,by decide,by decide,fun r hr=>?_⟩,fun r hr=>?_⟩
 ·simp only [mX,List.mem_cons,List.not_mem_nil,or_false] at hr
  rcases hr with rfl | rfl | rfl | rfl <;> exact v _ (by decide) (by decide)
 ·simp only [bX,List.mem_cons,List.not_mem_nil,or_false] at hr
  rcases hr with rfl | rfl <;> exact v _ (by decide) (by decide)
theorem solX {o:ToldS} (h:solR mX bX o):o=([⟨3,1⟩,⟨0,1⟩],[[⟨-2,1⟩,⟨1,1⟩]],0):=by
 refine solR.uniq h (.inr (.inr ⟨2,2,okX,rfl,rfl,rfl,.inl ?_⟩))
 obtain ⟨A,hA⟩:∃ A,A=mxv mX.V 2:=⟨_,rfl⟩
 obtain ⟨V,hV⟩:∃ V:Nat->Rat,V=fun i=>ratOf (gd bX i):=⟨_,rfl⟩
 have a00:A 0 0=((1:Int):Rat):=by rw [hA];exact ratOf_int 1
 have a01:A 0 1=((2:Int):Rat):=by rw [hA];exact ratOf_int 2
 have a10:A 1 0=((2:Int):Rat):=by rw [hA];exact ratOf_int 2
 have a11:A 1 1=((4:Int):Rat):=by rw [hA];exact ratOf_int 4
 have v0:V 0=((3:Int):Rat):=by rw [hV];exact ratOf_int 3
 have v1:V 1=((6:Int):Rat):=by rw [hV];exact ratOf_int 6
 rw [<- hA,<- hV]
 have m00:augM 2 A V 0 0=1:=by unfold augM;rw [if_neg (by decide),a00];rfl
 have m01:augM 2 A V 0 1=2:=by unfold augM;rw [if_neg (by decide),a01];rfl
 have m02:augM 2 A V 0 2=3:=by unfold augM;rw [if_pos rfl,v0];rfl
 have m10:augM 2 A V 1 0=2:=by unfold augM;rw [if_neg (by decide),a10];rfl
 have m11:augM 2 A V 1 1=4:=by unfold augM;rw [if_neg (by decide),a11];rfl
 have m12:augM 2 A V 1 2=6:=by unfold augM;rw [if_pos rfl,v1];rfl
 generalize augM 2 A V=N at *
 have st:=(Red.init (r:=2) (c:=3) (M0:=N) (M:=N) fun _ _ _ _=>rfl).step (p:=0) (by decide) (Nat.le_refl _) (by decide) (by rw [m00];decide)
 simp only [List.length_nil,List.nil_append] at st
 have e0:∀ j,elimM (divM (swapM N 0 0) 0 0) 0 0 0 j=N 0 j / N 0 0:=fun j=>by simp [elimM,divM,swapM]
 have e1:∀ j,elimM (divM (swapM N 0 0) 0 0) 0 0 1 j=N 1 j - N 1 0*(N 0 j / N 0 0):=fun j=>by simp [elimM,divM,swapM]
 generalize elimM (divM (swapM N 0 0) 0 0) 0 0=M at *
 have f01:M 0 1=2:=by rw [e0,m01,m00];grind
 have f02:M 0 2=3:=by rw [e0,m02,m00];grind
 have f11:M 1 1=0:=by rw [e1,m11,m10,m01,m00];grind
 have f12:M 1 2=0:=by rw [e1,m12,m10,m02,m00];grind
 have sk:=st.skip (fun i h1 h2=>by
  have:i=1:=by simp at h1;omega
  rw [this];exact f11)
 have x0:xvp M [((0:Nat):Int)] 2 1 0=((3:Int):Rat):=by
  show M 0 2=_
  rw [f02];rfl
 have x1:xvp M [((0:Nat):Int)] 2 1 1=((0:Int):Rat):=rfl
 have k0:krs M [((0:Nat):Int)] 2 0 0=((-2:Int):Rat):=by
  show - M 0 1=_
  rw [f01];rfl
 have k1:krs M [((0:Nat):Int)] 2 0 1=((1:Int):Rat):=rfl
 have two:∀ (x:Nat->Rat) (p q:Int),x 0=(p:Rat)->x 1=(q:Rat)->(-1000000000000<=p/\p<=1000000000000)->(-1000000000000<=q/\q<=1000000000000)->allTold 2 x/\tolds 2 x= [⟨p,1⟩,⟨q,1⟩]:=by
  intro x p q h1 h2 h3 h4
  refine ⟨fun i hi=>?_,?_⟩
  ·rcases (show i=0\/i=1 by omega) with rfl | rfl
   ·rw [h1,toldR_int h3]
   ·rw [h2,toldR_int h4]
  ·show [(toldR (x 0)).1,(toldR (x 1)).1] =_
   rw [h1,h2,toldR_int h3,toldR_int h4]
 obtain ⟨t1,t2⟩:=two (xvp M [((0:Nat):Int)] 2 1) 3 0 x0 x1 (by decide) (by decide)
 obtain ⟨t3,t4⟩:=two (krs M [((0:Nat):Int)] 2 0) (-2) 1 k0 k1 (by decide) (by decide)
 refine ⟨_,M,sk,fun i h1 h2=>?_,.inl ⟨⟨t1,fun a ha=>?_⟩,?_⟩⟩
 ·have:i=1:=by simp at h1;omega
  rw [this];exact f12
 ·have:a=0:=by
   have:(freeL [((0:Nat):Int)] 2).length=1:=rfl
   omega
  rw [this];exact t3
 ·show _=(tolds 2 (xvp M [((0:Nat):Int)] 2 1),[tolds 2 (krs M [((0:Nat):Int)] 2 0)],0)
  rw [t2,t4]
theorem W.retb {α β:Type} {a:α} {k:α->W β} {Q:β->Prop} (h:(k a).run Q):(W.bind (W.ret a) k).run Q:=W.bd h
theorem mat_SolveX {Q:ToldS->Prop} (H:Q ([⟨3,1⟩,⟨0,1⟩],[[⟨-2,1⟩,⟨1,1⟩]],0)):(mat_Solve.f (⟨2,2,[⟨1,1⟩,⟨2,1⟩,⟨2,1⟩,⟨4,1⟩]⟩:api_Mat) [⟨3,1⟩,⟨6,1⟩]).run Q:=
 mat_Solve_rel (m:=mX) (b:=bX) (by decide) (by decide) fun o ho=>by rw [solX ho];exact H
theorem law04_known_run {Q:Bool->Prop} (H:Q true):law04_known.f.run Q:=by
 unfold law04_known.f law04_known_1.f
 refine W.retb (W.retb (W.retb (W.retb (W.retb (W.retb (W.bd (mat_SolveX ?_)))))))
 refine W.retb (W.retb (W.bd (ref02_Same_refl ?_)))
 rw [if_pos rfl,if_pos (by rfl)]
 refine W.req_i (by decide) (W.retb (W.retb (W.bd (ref02_Same_refl ?_))))
 rw [if_pos rfl]
 exact H
end Go.Proofs.YtlmpoindlejefaaGreat.E
namespace Go.Proofs.YtlmpoindlejefaaGreat.E
open Go Go.RowKit
theorem Bt.pow {a:Nat} {d:Int} (h:Bt a d):∀ t:Nat,Bt (t*a+1) (d ^ t)
 | 0=>by unfold Bt;simp
 | t+1=>by
  have:=(Bt.pow h t).mul h
  rw [Int.pow_succ]
  exact this.mono (by rw [Nat.add_mul];omega)
theorem pow_ne {d:Int} (h:d≠0):∀ t:Nat,d ^ t≠0
 | 0=>by simp
 | t+1=>by rw [Int.pow_succ];exact Int.mul_ne_zero (pow_ne h t) h
theorem mat_cd1 {v:List api_Rat} {r c:Nat} (hr:r<=12) (hc:c<=12) (hl:v.length=r*c) (hv:∀ j i,j<r->i<c->valid (gd v (j*c+i))) (hall:∀ r ∈ v,valid r):∃ d:Int,d≠0/\Bt 5761 d/\∀ j i,j<r->i<c->Fd d 5761 (mxv v c j i):=by
 have hn:r*c<=144:=Nat.mul_le_mul hr hc
 obtain ⟨d,d0,d1,d2⟩:=cd_list (gd v) (r*c) fun k hk=>(all_valid_iff v).1 hall k (by omega)
 exact ⟨d,d0,Bt.mono (s:=40*(r*c)+1) d1 (by omega),fun j i hj hi=>(d2 _ (at_lt hj hi)).mono (by omega)⟩
end Go.Proofs.YtlmpoindlejefaaGreat.E
