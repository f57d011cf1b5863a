/- Joined. -/
import Derived.Test.YtlmpoindlejefaaGreatVM46
import Derived.Test.YtlmpoindlejefaaGreatVM30
set_option linter.unusedVariables false
set_option linter.unusedSimpArgs false
namespace Go.Proofs.YtlmpoindlejefaaGreat.E
open Go Go.RowKit
def okM (m:api_Mat) (b:List api_Rat):Prop:=matOk m/\∀ r ∈ b,valid r
theorem mat_system_run {m:api_Mat} {b:List api_Rat} {Q:Int->Prop} (hl:m.V.length<=281474976710656) (hb:b.length<=281474976710656) (h0:okM m b->(b.length:Int)=m.R->Q 0) (h1: ¬ okM m b->Q 1) (h8:okM m b->(b.length:Int)≠m.R->Q 8):(mat_system.f m b).run Q:=by
 unfold mat_system.f
 refine W.bd (mat_Validate_run hl (fun c=>?_) (fun c=>?_))
 ·rw [if_neg (by decide)]
  refine W.bd (num_AllValid_run hb (W.run_if (fun c2=>?_) (fun c2=>h1 fun h=>c2 (decide_eq_true h.2))))
  have ok:okM m b:=⟨c,of_decide_eq_true c2⟩
  exact W.run_if (fun c3=>h8 ok c3) (fun c3=>h0 ok (by omega))
 ·rw [if_pos (by decide)]
  exact h1 fun h=>c h.1
theorem ref04_sided_run {m:api_Mat} {b:List api_Rat} {Q:Int->Prop} (hl:m.V.length<=281474976710656) (hb:b.length<=281474976710656) (h0:okM m b->(b.length:Int)=m.R->Q 0) (h1: ¬ okM m b->Q 1) (h8:okM m b->(b.length:Int)≠m.R->Q 8):(ref04_sided.f m b).run Q:=by
 unfold ref04_sided.f
 refine W.bd (ref04_Validate_run hl (fun c=>?_) (fun c=>?_))
 ·rw [if_neg (by decide)]
  refine W.bd (ref04_numbers_run hb (fun c2=>?_) (fun c2=>?_))
  ·rw [if_neg (by decide)]
   exact W.run_if (fun c3=>h8 ⟨c,c2⟩ c3) (fun c3=>h0 ⟨c,c2⟩ (by omega))
  ·rw [if_pos (by decide)]
   exact h1 fun h=>c2 h.2
 ·rw [if_pos (by decide)]
  exact h1 fun h=>c h.1
theorem mat_cd {v b:List api_Rat} {r c:Nat} (hr:r<=12) (hc:c<=12) (hv:∀ j i,j<r->i<c->valid (gd v (j*c+i))) (hb:∀ j,j<r->valid (gd b j)):∃ d:Int,d≠0/\Bt 6300 d/\(∀ i k,i<r->k<c->Fd d 6300 (mxv v c i k))/\∀ i,i<r->Fd d 6300 (ratOf (gd b i)):=by
 obtain ⟨d1,a0,a1,a2⟩:=cd_list (fun k=>gd v k) (r*c) fun k hk=>by
  have hc0:0<c:=Nat.pos_of_ne_zero fun e=>by rw [e] at hk;simp at hk
  have h1:k / c<r:=Nat.div_lt_of_lt_mul (by rw [Nat.mul_comm];exact hk)
  have:=hv (k / c) (k % c) h1 (Nat.mod_lt _ hc0)
  rwa [Nat.mul_comm,Nat.div_add_mod] at this
 obtain ⟨d2,b0,b1,b2⟩:=cd_list (fun k=>gd b k) r hb
 have hrc:r*c<=12*12:=Nat.mul_le_mul hr hc
 refine ⟨d1*d2,Int.mul_ne_zero a0 b0,Bt.mono (Bt.mul a1 b1) (by omega),fun j i hj hi=>((a2 _ (at_lt hj hi)).up a0 b0 b1).mono (by omega),fun j hj=>?_⟩
 have:=(b2 j hj).up (e:=d1) b0 a0 a1
 rw [Int.mul_comm] at this
 exact this.mono (by omega)
theorem szC_M {s n:Nat} (hs:s<=6300) (hn:n<=12):szC s n<=25900000:=by
 have h1:=szC_mono s hn
 have h2:szC s 12<=25900000:=by simp only [szC];omega
 omega
def rowsT (n c:Nat) (F:Nat->Nat->Rat):List (List api_Rat):=(List.range n).map fun a=>tolds c (F a)
theorem rowsT_succ (n c:Nat) (F:Nat->Nat->Rat):rowsT (n+1) c F=rowsT n c F ++ [tolds c (F n)]:=by simp [rowsT,List.range_succ]
theorem rowsT_len (n c:Nat) (F:Nat->Nat->Rat):(rowsT n c F).length=n:=by simp [rowsT]
theorem rowsT_congr {n c:Nat} {F G:Nat->Nat->Rat} (h:∀ a i,a<n->i<c->F a i=G a i):rowsT n c F=rowsT n c G:=by
 unfold rowsT
 exact List.map_congr_left fun a ha=>tolds_congr fun i hi=>h a i (List.mem_range.1 ha) hi
abbrev ToldS:=List api_Rat×List (List api_Rat)×Int
abbrev krs (M:Nat->Nat->Rat) (piv:List Int) (c:Nat):Nat->Nat->Rat:=fun a=>kv M piv (gd (freeL piv c) a)
theorem allTold_congr {n:Nat} {x y:Nat->Rat} (h:∀ i,i<n->x i=y i):allTold n x ↔ allTold n y:=⟨fun k i hi=>by rw [<- h i hi];exact k i hi,fun k i hi=>by rw [h i hi];exact k i hi⟩
def toldS (c:Nat) (M:Nat->Nat->Rat) (piv:List Int) (o:ToldS):Prop:=
 (allTold c (xvp M piv c piv.length)/\∀ a,a<(freeL piv c).length->allTold c (krs M piv c a))/\o=(tolds c (xvp M piv c piv.length),rowsT (freeL piv c).length c (krs M piv c),0)\/¬ (allTold c (xvp M piv c piv.length)/\∀ a,a<(freeL piv c).length->allTold c (krs M piv c a))/\o=([],[],3)
def SolG (r c:Nat) (A:Nat->Nat->Rat) (V:Nat->Rat) (o:ToldS):Prop:=
 (∃ piv M,Red r (c+1) (augM c A V) M c piv/\(∀ i,piv.length<=i->i<r->M i c=0)/\toldS c M piv o)\/(¬ ∃ x:Nat->Rat,∀ i,i<r->dz c (A i) x=V i)/\o=([],[],4)
theorem gd_inL {l:List Nat} {i:Nat} (h:i<l.length):gd l i ∈ l:=by rw [gd_lt h];exact List.getElem_mem h
theorem SolG.uniq {r c:Nat} {A:Nat->Nat->Rat} {V:Nat->Rat} {o p:ToldS} (h:SolG r c A V o) (k:SolG r c A V p):o=p:=by
 rcases h with ⟨piv,M,h1,h2,h3⟩ | ⟨h1,rfl⟩
 ·rcases k with ⟨piv',M',k1,k2,k3⟩ | ⟨k1,_⟩
  ·have e1:=h1.freeL_same k1
   have e2:=h1.xvp_same k1 h2 k2
   have e3:∀ a i,a<(freeL piv c).length->i<c->krs M piv c a i=krs M' piv' c a i:=fun a i ha hi=>by
    obtain ⟨g1,g2⟩:=freeL_mem.1 (gd_inL ha)
    unfold krs
    rw [<- e1]
    exact h1.kv_same k1 g1 g2 i hi
   have e4:(allTold c (xvp M piv c piv.length)/\∀ a,a<(freeL piv c).length->allTold c (krs M piv c a)) ↔ (allTold c (xvp M' piv' c piv'.length)/\∀ a,a<(freeL piv' c).length->allTold c (krs M' piv' c a)):=by
    rw [allTold_congr e2,<- e1]
    exact ⟨fun ⟨q1,q2⟩=>⟨q1,fun a ha=>(allTold_congr fun i hi=>e3 a i ha hi).1 (q2 a ha)⟩,fun ⟨q1,q2⟩=>⟨q1,fun a ha=>(allTold_congr fun i hi=>e3 a i ha hi).2 (q2 a ha)⟩⟩
   unfold toldS at h3 k3
   rw [e4,tolds_congr e2,rowsT_congr e3,e1] at h3
   rcases h3 with ⟨c1,rfl⟩ | ⟨c1,rfl⟩
   ·rcases k3 with ⟨c2,rfl⟩ | ⟨c2,rfl⟩
    ·rfl
    ·exact absurd c1 c2
   ·rcases k3 with ⟨c2,rfl⟩ | ⟨c2,rfl⟩
    ·exact absurd c2 c1
    ·rfl
  ·exact absurd (h1.none_iff.1 h2) k1
 ·rcases k with ⟨piv',M',k1,k2,k3⟩ | ⟨k1,rfl⟩
  ·exact absurd (k1.none_iff.1 k2) h1
  ·rfl
def solR (m:api_Mat) (b:List api_Rat) (o:ToldS):Prop:=
 ¬ okM m b/\o=([],[],1)\/okM m b/\(b.length:Int)≠m.R/\o=([],[],8)\/∃ r c:Nat,okM m b/\m.R=r/\m.C=c/\b.length=r/\SolG r c (mxv m.V c) (fun i=>ratOf (gd b i)) o
theorem solR.uniq {m:api_Mat} {b:List api_Rat} {o p:ToldS} (hx:solR m b o) (hy:solR m b p):o=p:=by
 rcases hx with ⟨a1,rfl⟩ | ⟨a1,a2,rfl⟩ | ⟨r,c,a1,a2,a3,a4,a5⟩
 ·rcases hy with ⟨b1,rfl⟩ | ⟨b1,b2,rfl⟩ | ⟨r',c',b1,b2,b3,b4,b5⟩ <;> first | rfl | exact absurd b1 a1
 ·rcases hy with ⟨b1,rfl⟩ | ⟨b1,b2,rfl⟩ | ⟨r',c',b1,b2,b3,b4,b5⟩ <;> first | rfl | exact absurd a1 b1 | omega
 ·rcases hy with ⟨b1,rfl⟩ | ⟨b1,b2,rfl⟩ | ⟨r',c',b1,b2,b3,b4,b5⟩
  ·exact absurd a1 b1
  ·omega
  ·obtain rfl:r=r':=by omega
   obtain rfl:c=c':=by omega
   exact a5.uniq b5
section
variable {m:api_Mat} {b:List api_Rat} {Q:ToldS->Prop}
theorem mat_Solve_rel (hl:m.V.length<=281474976710656) (hb:b.length<=281474976710656) (H:∀ o,solR m b o->Q o):(mat_Solve.f m b).run Q:=by
 unfold mat_Solve.f
 refine W.bd (mat_system_run hl hb (fun ok hlen=>?_) (fun c=>?_) (fun ok c=>?_))
 rotate_left
 ·rw [if_pos (by decide)];exact H _ (.inl ⟨c,rfl⟩)
 ·rw [if_pos (by decide)];exact H _ (.inr (.inl ⟨ok,c,rfl⟩))
 rw [if_neg (by decide)]
 have o1:=ok.1.1
 have o2:=ok.1.2.1
 obtain ⟨r,hR⟩:=Int.eq_ofNat_of_zero_le o1.1
 obtain ⟨c,hC⟩:=Int.eq_ofNat_of_zero_le o2.1
 have hbl:b.length=r:=by omega
 have hr:r<=12:=by omega
 have hc:c<=12:=by omega
 have hv:=(ok.1.at hR hC).2
 have vb:∀ j,j<r->valid (gd b j):=fun j hj=>(all_valid_iff b).1 ok.2 j (by omega)
 have K:∀ o,SolG r c (mxv m.V c) (fun i=>ratOf (gd b i)) o->Q o:=fun o ho=>H o (.inr (.inr ⟨r,c,ok,hR,hC,hbl,ho⟩))
 obtain ⟨d,d0,d1,d2,d3⟩:=mat_cd hr hc hv vb
 have hsz:=szC_M (Nat.le_refl 6300) hc
 have hdt:c*szC 6300 c<=12*25900000:=Nat.mul_le_mul hc hsz
 refine W.bd (qm_Of_run ok.1 hR hC fun x hx1 hx2=>W.bd (num_In_run hbl (by omega) (fun k hk=>⟨vb k hk,rfl⟩) fun B hB=>W.bd (qm_Solve_gen (Z:=fun k N=>CdM r (c+1) (szC 6300 k) N) (t:=szC 6300 c) hx1 hx2 hB (by omega) (by omega) (by omega) (by omega) (CdM.mk' d0 d1 (Nat.le_refl _) (augM_all d2 d3)) Grows.cd (fun piv M' xs ker q1 q2 q3 q4=>?_) (fun piv M' i q1 q2 q3 q4=>?_))))
 ·rw [if_pos rfl]
  have hfl:=freeL_len piv c
  have hkl:=q4.1
  refine W.bd (num_Outs_run q3 (by omega) (fun t=>?_) (fun t=>?_))
  ·rw [if_pos rfl]
   refine W.loop_c (fun s:List (List api_Rat)×Int=>∃ i:Nat,s.2=i/\i<=(freeL piv c).length/\s.1=rowsT i c (krs M' piv c)/\∀ a,a<i->allTold c (krs M' piv c a)) (fun s=>(freeL piv c).length - s.2.toNat) ⟨0,rfl,Nat.zero_le _,rfl,fun a ha=>by omega⟩ ?_
   rintro ⟨rows,_⟩ P ⟨i,rfl,hi,rfl,h2⟩ hgo hbrk hout
   simp only at h2 hgo |-
   have hrl:=rowsT_len i c (krs M' piv c)
   unfold mat_Solve.l1
   simp only [gi_gd,hkl]
   refine W.run_if (fun c1=>W.req_i (by omega) (W.bd (num_Outs_run (q4.2 i (by omega)) (by omega) (fun t2=>?_) (fun t2=>?_)))) (fun c1=>hbrk _ ?_)
   ·rw [if_pos rfl]
    refine W.req_i (by omega) (hgo _ ⟨i+1,by simp,by omega,(rowsT_succ _ _ _).symm,fun a ha=>?_⟩ (by simp;omega))
    by_cases e:a=i
    ·rw [e];exact t2
    ·exact h2 a (by omega)
   ·rw [if_neg (by simp)]
    exact hout _ (K _ (.inl ⟨piv,M',q1,q2,.inr ⟨fun h=>t2 (h.2 i (by omega)),rfl⟩⟩))
   ·obtain rfl:i=(freeL piv c).length:=by omega
    unfold mat_Solve.j1
    exact K _ (.inl ⟨piv,M',q1,q2,.inl ⟨⟨t,h2⟩,rfl⟩⟩)
  ·rw [if_neg (by simp)]
   exact K _ (.inl ⟨piv,M',q1,q2,.inr ⟨fun h=>t h.1,rfl⟩⟩)
 ·rw [if_neg (by simp)]
  exact K _ (.inr ⟨fun h=>q4 (q1.none_iff.2 h i q2 q3),rfl⟩)
theorem ref04_Lists_run {xs:List ref01_Q} {ker:List (List ref01_Q)} {c k:Nat} {x:Nat->Rat} {F:Nat->Nat->Rat} (hc:c<=1000000) (hk:k<=1000000) (hx:RL xs c x) (hF:RM ker k c F) (h1:(allTold c x/\∀ a,a<k->allTold c (F a))->Q (tolds c x,rowsT k c F,0)) (h2: ¬ (allTold c x/\∀ a,a<k->allTold c (F a))->Q ([],[],3)):(ref04_Lists.f xs ker).run Q:=by
 have hkl:=hF.1
 unfold ref04_Lists.f
 have go:∀ (l0:List api_Rat) (p0:Bool),(p0=true->l0=tolds c x)->(p0=true ↔ allTold c x)->(W.bind (W.loop (fun (s:Bool×List (List api_Rat)×Int)=>ref04_Lists.l1 ker s.1 s.2.1 s.2.2) (p0,[],0)) (Lp.on (fun s=>ref04_Lists.j1 (l0,p0) s.1 s.2.1) (fun r=>W.ret r))).run Q:=by
  intro l0 p0 hp1 hp2
  refine W.loop_c (fun s:Bool×List (List api_Rat)×Int=>∃ i:Nat,s.2.2=i/\i<=k/\s.2.1.length=i/\(s.1=true ↔ allTold c x/\∀ a,a<i->allTold c (F a))/\(s.1=true->s.2.1=rowsT i c F)) (fun s=>k - s.2.2.toNat) ⟨0,rfl,Nat.zero_le _,rfl,by rw [hp2];exact ⟨fun h=>⟨h,fun a ha=>by omega⟩,fun h=>h.1⟩,fun _=>rfl⟩ ?_
  rintro ⟨p,rows,_⟩ P ⟨i,rfl,hi,k0,k1,k2⟩ hgo hbrk hout
  simp only at k0 k1 k2 hgo |-
  unfold ref04_Lists.l1
  simp only [gi_gd,hkl]
  refine W.run_if (fun c1=>W.req_i (by omega) ?_) (fun c1=>hbrk _ ?_)
  ·have step:∀ (l:List api_Rat) (b q:Bool),(q=true->p=true/\l=tolds c (F i)/\allTold c (F i))->(p=true->allTold c (F i)->q=true)->(ref04_Lists.j3 rows (i:Int) (l,b) q).run P:=by
    intro l b q hq1 hq2
    unfold ref04_Lists.j3 ref04_Lists.j2
    refine W.req_i (by omega) (hgo _ ⟨i+1,by simp,by omega,by simp [k0],⟨fun h=>?_,fun h=>?_⟩,fun h=>?_⟩ (by simp;omega))
    ·obtain ⟨g1,g2,g3⟩:=hq1 h
     obtain ⟨g4,g5⟩:=k1.1 g1
     refine ⟨g4,fun a ha=>?_⟩
     by_cases e:a=i
     ·rw [e];exact g3
     ·exact g5 a (by omega)
    ·exact hq2 (k1.2 ⟨h.1,fun a ha=>h.2 a (by omega)⟩) (h.2 i (by omega))
    ·obtain ⟨g1,g2,g3⟩:=hq1 h
     rw [k2 g1,g2];exact (rowsT_succ _ _ _).symm
   refine W.bd (ref01_Rats_run (hF.2 i (by omega)) (by omega) (fun t=>?_) (fun t=>?_))
   ·refine W.run_if (fun c2=>?_) (fun c2=>?_)
    ·exact step _ _ _ (fun _=>⟨c2,rfl,t⟩) (fun _ _=>rfl)
    ·exact step _ _ _ (fun h=>by cases h) (fun h _=>absurd h c2)
   ·refine W.run_if (fun c2=>?_) (fun c2=>?_)
    ·exact step _ _ _ (fun h=>by cases h) (fun _ h=>absurd h t)
    ·exact step _ _ _ (fun h=>by cases h) (fun h _=>absurd h c2)
  ·obtain rfl:i=k:=by omega
   unfold ref04_Lists.j1
   refine W.run_if (fun c2=>?_) (fun c2=>h2 fun h=>c2 (k1.2 h))
   have g:=k1.1 c2
   rw [k2 c2]
   show Q (l0,_,0)
   rw [hp1 (hp2.2 g.1)]
   exact h1 g
 refine W.bd (ref01_Rats_run hx (by omega) (fun t=>?_) (fun t=>?_))
 ·exact go _ _ (fun _=>rfl) ⟨fun _=>t,fun _=>rfl⟩
 ·exact go _ _ (fun h=>by cases h) ⟨fun h=>(by cases h),fun h=>absurd h t⟩
theorem ref04_Solve_rel (hl:m.V.length<=281474976710656) (hb:b.length<=281474976710656) (H:∀ o,solR m b o->Q o):(ref04_Solve.f m b).run Q:=by
 unfold ref04_Solve.f
 refine W.bd (ref04_sided_run hl hb (fun ok hlen=>?_) (fun c=>?_) (fun ok c=>?_))
 rotate_left
 ·rw [if_pos (by decide)];exact H _ (.inl ⟨c,rfl⟩)
 ·rw [if_pos (by decide)];exact H _ (.inr (.inl ⟨ok,c,rfl⟩))
 rw [if_neg (by decide)]
 have o1:=ok.1.1
 have o2:=ok.1.2.1
 obtain ⟨r,hR⟩:=Int.eq_ofNat_of_zero_le o1.1
 obtain ⟨c,hC⟩:=Int.eq_ofNat_of_zero_le o2.1
 have hbl:b.length=r:=by omega
 have hr:r<=12:=by omega
 have hc:c<=12:=by omega
 obtain ⟨hvl,hv⟩:=ok.1.at hR hC
 have vb:∀ j,j<r->valid (gd b j):=fun j hj=>(all_valid_iff b).1 ok.2 j (by omega)
 have K:∀ o,SolG r c (mxv m.V c) (fun i=>ratOf (gd b i)) o->Q o:=fun o ho=>H o (.inr (.inr ⟨r,c,ok,hR,hC,hbl,ho⟩))
 obtain ⟨d,d0,d1,d2,d3⟩:=mat_cd hr hc hv vb
 have hsz:=szC_M (Nat.le_refl 6300) hc
 refine W.bd (ref04_Rows_run hR hC hr hc hvl hv fun A hA=>W.bd (ref01_List_run hbl (by omega) (fun k hk=>⟨vb k hk,rfl⟩) fun B hB=>?_))
 rw [hC]
 refine W.bd (ref04_Solution_gen (Z:=fun k N=>CdM r (c+1) (szC 6300 k) N) (t0:=szC 6300 c) hA hB (by omega) (by omega) (by omega) (CdM.mk' d0 d1 (Nat.le_refl _) (augM_all d2 d3)) Grows.cd (fun piv M' xs ker q1 q2 q0 q3 q4=>?_) (fun piv M' i q1 q2 q3 q4=>?_))
 ·rw [if_pos rfl]
  have hfl:=freeL_len piv c
  exact W.bd (ref04_Lists_run (k:=(freeL piv c).length) (by omega) (by omega) q3 q4 (fun t=>K _ (.inl ⟨piv,M',q1,q2,.inl ⟨t,rfl⟩⟩)) (fun t=>K _ (.inl ⟨piv,M',q1,q2,.inr ⟨t,rfl⟩⟩)))
 ·rw [if_neg (by simp)]
  exact K _ (.inr ⟨fun h=>q4 (q1.none_iff.2 h i q2 q3),rfl⟩)
end
end Go.Proofs.YtlmpoindlejefaaGreat.E
namespace Go.Proofs.YtlmpoindlejefaaGreat.E
open Go Go.RowKit
theorem ref01_cmp0_run {a b:ref01_whole} {x y:Int} {Q:Int->Prop} (ha:WRep a x) (hb:WRep b y) (H:∀ r,(r=0 ↔ x=y)->Q r):(ref01_whole_cmp.f a b).run Q:=by
 unfold ref01_whole_cmp.f
 have na:=ha.neg_iff
 have nb:=hb.neg_iff
 have aa:=ha.abs
 have ab:=hb.abs
 refine W.run_if (fun c=>?_) (fun c=>?_)
 ·have c:a.minus=b.minus:=by simpa using c
  refine W.run_if (fun c2=>W.bd (ref01_order_run ha.wd hb.wd ha.tr hb.tr fun r hr=>?_)) (fun c2=>W.bd (ref01_order_run ha.wd hb.wd ha.tr hb.tr fun r hr=>?_))
  ·have h1:=na.1 c2
   have h2:=nb.1 (c ▸ c2)
   unfold Cmp3 at hr
   refine W.req_i (by show _/\_;omega) (H _ ?_)
   omega
  ·have h1: ¬ x<0:=fun h=>c2 (na.2 h)
   have h2: ¬ y<0:=fun h=>c2 (c ▸ nb.2 h)
   unfold Cmp3 at hr
   refine H _ ?_
   omega
 ·have c: ¬ a.minus=b.minus:=by simpa using c
  refine W.run_if (fun c2=>H _ ?_) (fun c2=>H _ ?_)
  ·have h1:=na.1 c2
   have h2: ¬ y<0:=fun h=>c (c2.trans (nb.2 h).symm)
   omega
  ·have h1: ¬ x<0:=fun h=>c2 (na.2 h)
   have h2:y<0:=nb.1 (by cases hb2:b.minus with
    | true=>rfl
    | false=>exact absurd (by rw [hb2];simpa using c2) c)
   omega
theorem rat_cross {x y:Rat} :x.num*(y.den:Int)=y.num*(x.den:Int) ↔ x=y:=by
 have h:=Rat.divInt_eq_divInt_iff (n₁:=x.num) (n₂:=y.num) (den_ne x) (den_ne y)
 rw [Rat.num_divInt_den,Rat.num_divInt_den] at h
 exact h.symm
theorem ref01_Cmp0_run {a b:ref01_Q} {x y:Rat} {Q:Int->Prop} (ha:RRep a x) (hb:RRep b y) (ox:Ok x) (oy:Ok y) (H:∀ r,(r=0 ↔ x=y)->Q r):(ref01_Q_Cmp.f a b).run Q:=by
 obtain ⟨s,hs,sx⟩:=ox
 obtain ⟨t,ht,sy⟩:=oy
 unfold ref01_Q_Cmp.f
 have lx:=ha.n.len sx.1
 have ly:=hb.n.len sy.1
 refine W.bd (ref01_den_run hb fun v hv=>?_)
 have lv:=hv.len (den_len sy)
 refine W.bd (ref01_mul_run ha.n hv (by omega) (by omega) fun p hp=>W.bd (ref01_den_run ha fun u hu=>?_))
 have lu:=hu.len (den_len sx)
 exact W.bd (ref01_mul_run hb.n hu (by omega) (by omega) fun q hq=>W.bd (ref01_cmp0_run hp hq fun r hr=>H r (hr.trans rat_cross)))
theorem sm_sz {n s t:Nat} {f g:Nat->Rat} (sf:∀ i,i<n->Sz s (f i)) (sg:∀ i,i<n->Sz t (g i)):Sz (n*(s+t+1)+1) (sm n (fun i=>f i*g i)):=Sz.sm fun j hj=>(sf j hj).mul (sg j hj)
theorem ref04_Times1_run {a:List ref01_Q} {b:List (List ref01_Q)} {n c s t:Nat} {f:Nat->Rat} {B:Nat->Nat->Rat} {Q:List (List ref01_Q)->Prop} (ha:RL a n f) (hb:RM b n c B) (hn:n<=1000) (hc:c<=1000) (hs:n*(s+t+1)+1<=8796093022208) (hs2:s+t<=8796093022208) (sf:∀ i,i<n->Sz s (f i)) (sB:∀ i j,i<n->j<c->Sz t (B i j)) (H:∀ o,RM o 1 c (fun _ j=>sm n (fun i=>f i*B i j))->Q o):(ref04_Times.f [a] b (c:Int)).run Q:=by
 have hal:=ha.1
 have hbl:=hb.1
 unfold ref04_Times.f
 refine W.req_i (by simp) ?_
 refine W.loop_c (fun s:List (List ref01_Q)×Int=>∃ i:Nat,s.2=i/\i<=1/\s.1.length=1/\(i=1->RL (gd s.1 0) c (fun j=>sm n (fun i=>f i*B i j)))) (fun s=>1 - s.2.toNat) ⟨0,rfl,Nat.zero_le _,by simp,fun h=>by omega⟩ ?_
 rintro ⟨o,_⟩ P ⟨i,rfl,hi,h1,h2⟩ hgo hbrk hout
 simp only at h1 h2 hgo |-
 unfold ref04_Times.l1
 simp only [List.length_cons,List.length_nil,Nat.zero_add,Int.toNat_natCast]
 refine W.run_if (fun c1=>?_) (fun c1=>hbrk _ ?_)
 ·obtain rfl:i=0:=by omega
  refine W.req_i (by omega) (W.req_i (by omega) ?_)
  have ea:gi [a] ((0:Nat):Int)=a:=rfl
  refine W.loop_c (fun s:List (List ref01_Q)×Int=>∃ j:Nat,s.2=j/\j<=c/\s.1.length=1/\RL (gd s.1 0) c (fun k=>if k<j then sm n (fun i=>f i*B i k) else 0)) (fun s=>c - s.2.toNat) ⟨0,rfl,Nat.zero_le _,by simp [h1],?_⟩ ?_
  ·simp only [Int.toNat_natCast]
   rw [gd_set,if_pos ⟨rfl,by omega⟩]
   exact (RL.zero c).congr fun k hk=>by rw [if_neg (by omega)]
  rintro ⟨o2,_⟩ P2 ⟨j,rfl,hj,k1,k2⟩ hgo2 hbrk2 hout2
  simp only at k1 k2 hgo2 |-
  unfold ref04_Times.l2
  refine W.run_if (fun c2=>?_) (fun c2=>hbrk2 _ ?_)
  ·have hjc:j<c:=by omega
   refine W.loop_c (fun s:List (List ref01_Q)×Int=>∃ q:Nat,s.2=q/\q<=n/\s.1.length=1/\RL (gd s.1 0) c (fun k=>if k<j then sm n (fun i=>f i*B i k) else if k=j then sm q (fun i=>f i*B i k) else 0)) (fun s=>n - s.2.toNat) ⟨0,rfl,Nat.zero_le _,k1,k2.congr fun k hk=>by
    by_cases e:k<j
    ·rw [if_pos e,if_pos e]
    ·rw [if_neg e,if_neg e]
     split
     ·rfl
     ·rfl⟩ ?_
   rintro ⟨o3,_⟩ P3 ⟨q,rfl,hq,m1,m2⟩ hgo3 hbrk3 hout3
   simp only at m1 m2 hgo3 |-
   unfold ref04_Times.l3
   simp only [ea,hbl]
   simp only [gi_gd]
   refine W.run_if (fun c3=>?_) (fun c3=>hbrk3 _ ?_)
   ·have hqn:q<n:=by omega
    have hbq:=hb.2 q hqn
    have hbql:=hbq.1
    have m2l:=m2.1
    have hcur:=m2.2 j hjc
    dsimp only at hcur
    rw [if_neg (Nat.lt_irrefl _),if_pos rfl] at hcur
    have hmul:=Nat.mul_le_mul_right (s+t+1) hq
    have sz:Sz (q*(s+t+1)+1) (sm q (fun i=>f i*B i j)):=sm_sz (fun i hi=>sf i (by omega)) (fun i hi=>sB i j (by omega) hjc)
    refine W.req_i (by omega) (W.req_i (by omega) (W.req_i (by omega) (W.req_i (by first | omega | simp) (W.req_i (by omega) (W.req_i (by omega) (W.req_i (by omega) (W.bd (ref01_Mul_run (ha.2 q hqn) (hbq.2 j hjc) ((sf q hqn).ok (by omega)) ((sB q j hqn hjc).ok (by omega)) fun x hx=>W.bd (ref01_Add_run hcur hx (sz.ok (by omega)) (((sf q hqn).mul (sB q j hqn hjc)).ok hs2) fun z hz=>W.req_i (by omega) (hgo3 _ ⟨q+1,by simp,by omega,by simp [m1],?_⟩ (by simp;omega)))))))))))
    simp only [Int.toNat_natCast]
    rw [gd_set,if_pos ⟨rfl,by omega⟩]
    refine (m2.set hz).congr fun k hk=>?_
    by_cases e:k=j
    ·subst e;rw [if_pos rfl,if_neg (Nat.lt_irrefl _),if_pos rfl];rfl
    ·rw [if_neg e,if_neg e,if_neg e]
   ·obtain rfl:q=n:=by omega
    unfold ref04_Times.j3
    refine hgo2 _ ⟨j+1,by simp,by omega,m1,m2.congr fun k hk=>?_⟩ (by simp;omega)
    by_cases e:k=j
    ·subst e;rw [if_neg (Nat.lt_irrefl _),if_pos rfl,if_pos (Nat.lt_succ_self _)]
    ·have:(k<j+1) ↔ (k<j):=by omega
     rw [if_neg e];simp only [this]
  ·obtain rfl:j=c:=by omega
   unfold ref04_Times.j2
   exact hgo _ ⟨1,by simp,by omega,k1,fun _=>k2.congr fun k hk=>by rw [if_pos hk]⟩ (by simp)
 ·obtain rfl:i=1:=by omega
  unfold ref04_Times.j1
  exact H _ ⟨h1,fun i hi=>by obtain rfl:i=0:=(by omega);exact h2 rfl⟩
theorem ref04_Refutes_run {m:api_Mat} {b:List api_Rat} {r c:Nat} {y:Nat->Rat} {Q:Bool->Prop} (hl:m.V.length<=281474976710656) (hb:b.length<=281474976710656) (ok:okM m b) (hR:m.R=r) (hC:m.C=c) (hbl:b.length=r) (ht:allTold r y) (y1:∀ k,k<c->sm r (fun i=>mxv m.V c i k*y i)=0) (y2:sm r (fun i=>ratOf (gd b i)*y i)=1) (H:Q true):(ref04_Refutes.f m b (tolds r y)).run Q:=by
 obtain ⟨hvl,hv⟩:=ok.1.at hR hC
 have hr:r<=12:=by have:=ok.1.1;omega
 have hc:c<=12:=by have:=ok.1.2.1;omega
 have vb:∀ j,j<r->valid (gd b j):=fun j hj=>(all_valid_iff b).1 ok.2 j (by omega)
 have tl:=tolds_len r y
 have tv:∀ k,k<r->valid (gd (tolds r y) k)/\ratOf (gd (tolds r y) k)=y k:=fun k hk=>by rw [tolds_gd hk];exact toldR_valid (ht k hk)
 have sy:∀ i,i<r->Sz 40 (y i):=fun i hi=>by have:=(tv i hi).1.sz;rwa [(tv i hi).2] at this
 unfold ref04_Refutes.f
 refine W.bd (ref04_sided_run hl hb (fun _ _=>?_) (fun c=>absurd ok c) (fun _ c=>absurd (by omega) c))
 rw [if_neg (by decide)]
 refine W.run_if (fun c=>absurd (by omega) c) (fun _=>W.bd (ref04_numbers_run (by omega) (fun _=>?_) (fun c=>absurd ((all_valid_iff _).2 fun k hk=>(tv k (by omega)).1) c)))
 rw [if_neg (by decide)]
 refine W.bd (ref01_List_run tl (by omega) tv fun Y hY=>W.bd (ref04_Rows_run hR hC hr hc hvl hv fun A hA=>?_))
 rw [hC]
 refine W.bd (ref04_Times1_run (s:=40) (t:=40) hY hA (by omega) (by omega) (by omega) (by omega) sy (fun i j hi hj=>(hv i j hi hj).sz) fun o ho=>?_)
 have hYl:=hY.1
 have hol:=ho.1
 have ho0:=ho.2 0 (by omega)
 have ho0l:=ho0.1
 refine W.loop_c (fun p:Int=>∃ k:Nat,p=k/\k<=c) (fun p=>c - p.toNat) ⟨0,rfl,Nat.zero_le _⟩ ?_
 rintro _ P ⟨k,rfl,hk⟩ hgo hbrk hout
 unfold ref04_Refutes.l2
 have e0:gi o 0=gd o 0:=gi_gd o 0
 rw [hC,e0]
 simp only [gi_gd]
 refine W.run_if (fun c1=>W.req_i (by omega) (W.req_i (by omega) (W.bd (ref01_IsZero_run (ho0.2 k (by omega)) ?_)))) (fun c1=>hbrk _ ?_)
 ·rw [if_pos (decide_eq_true (by rw [<- y1 k (by omega)];exact sm_congr fun i _=>Rat.mul_comm _ _))]
  exact hgo _ ⟨k+1,by simp,by omega⟩ (by simp;omega)
 unfold ref04_Refutes.j1
 refine W.loop_c (fun s:ref01_Q×Int=>∃ i:Nat,s.2=i/\i<=r/\RRep s.1 (sm i (fun i=>y i*ratOf (gd b i)))) (fun s=>r - s.2.toNat) ⟨0,rfl,Nat.zero_le _,RRep.zero⟩ ?_
 rintro ⟨q,_⟩ P2 ⟨i,rfl,hi,h1⟩ hgo2 hbrk2 hout2
 simp only at h1 hgo2 |-
 unfold ref04_Refutes.l1
 have eY:gi [Y] 0=Y:=rfl
 rw [hR,eY]
 simp only [gi_gd]
 refine W.run_if (fun c2=>?_) (fun c2=>hbrk2 _ ?_)
 ·have hir:i<r:=by omega
  have v:=vb i hir
  have sz:Sz (i*(40+40+1)+1) (sm i (fun i=>y i*ratOf (gd b i))):=sm_sz (fun j hj=>sy j (by omega)) (fun j hj=>(vb j (by omega)).sz)
  refine W.req_i (by simp) (W.req_i (by omega) (W.req_i (by omega) (W.bd (ref01_Of_run v.i64.1 v.i64.2.1 v.i64.2.2 fun z hz=>W.bd (ref01_Mul_run (hY.2 i hir) hz ((sy i hir).ok (by omega)) (v.sz.ok (by omega)) fun x hx=>W.bd (ref01_Add_run h1 hx (sz.ok (by omega)) (((sy i hir).mul v.sz).ok (by omega)) fun u hu=>hgo2 _ ⟨i+1,by simp,by omega,hu⟩ (by simp;omega)))))))
 ·obtain rfl:i=r:=by omega
  have e1:sm i (fun i=>y i*ratOf (gd b i))=1:=by rw [<- y2];exact sm_congr fun i _=>Rat.mul_comm _ _
  rw [e1] at h1
  unfold ref04_Refutes.j2
  refine W.bd (ref01_Int_run (n:=1) (by show _/\_;omega) fun one hone=>W.bd (ref01_Cmp0_run h1 (y:=1) (by simpa using hone) (Sz.one.ok (by omega)) (Sz.one.ok (by omega)) fun w hw=>?_))
  rw [hw.2 rfl]
  exact H
end Go.Proofs.YtlmpoindlejefaaGreat.E
namespace Go.Proofs.YtlmpoindlejefaaGreat.E
open Go Go.RowKit
abbrev ToldF:=List api_Rat×Bool×Int
def solv (r c:Nat) (A:Nat->Nat->Rat) (V:Nat->Rat):Prop:=∃ x:Nat->Rat,∀ i,i<r->dz c (A i) x=V i
def RefG (r c:Nat) (A:Nat->Nat->Rat) (V:Nat->Rat) (o:ToldF):Prop:=
 solv r c A V/\o=([],false,0)\/¬ solv r c A V/\∃ y:Nat->Rat,(∀ k,k<c->sm r (fun i=>A i k*y i)=0)/\sm r (fun i=>V i*y i)=1/\(allTold r y/\o=(tolds r y,true,0)\/¬ allTold r y/\o=([],false,3))
def refR (m:api_Mat) (b:List api_Rat) (o:ToldF):Prop:=
 ¬ okM m b/\o=([],false,1)\/okM m b/\(b.length:Int)≠m.R/\o=([],false,8)\/∃ r c:Nat,okM m b/\m.R=r/\m.C=c/\b.length=r/\RefG r c (mxv m.V c) (fun i=>ratOf (gd b i)) o
def canR (m:api_Mat) (b:List api_Rat) (o:Bool×Int):Prop:=
 ¬ okM m b/\o=(false,1)\/okM m b/\(b.length:Int)≠m.R/\o=(false,8)\/∃ r c:Nat,okM m b/\m.R=r/\m.C=c/\b.length=r/\(solv r c (mxv m.V c) (fun i=>ratOf (gd b i))/\o=(false,0)\/¬ solv r c (mxv m.V c) (fun i=>ratOf (gd b i))/\o=(true,0))
section
variable {m:api_Mat} {b:List api_Rat}
theorem mat_Refute_rel {Q:ToldF->Prop} (hl:m.V.length<=281474976710656) (hb:b.length<=281474976710656) (H:∀ o,refR m b o->Q o):(mat_Refute.f m b).run Q:=by
 unfold mat_Refute.f
 refine W.bd (mat_system_run hl hb (fun ok hlen=>?_) (fun c=>?_) (fun ok c=>?_))
 rotate_left
 ·rw [if_pos (by decide)];exact H _ (.inl ⟨c,rfl⟩)
 ·rw [if_pos (by decide)];exact H _ (.inr (.inl ⟨ok,c,rfl⟩))
 rw [if_neg (by decide)]
 have o1:=ok.1.1
 have o2:=ok.1.2.1
 obtain ⟨r,hR⟩:=Int.eq_ofNat_of_zero_le o1.1
 obtain ⟨c,hC⟩:=Int.eq_ofNat_of_zero_le o2.1
 have hbl:b.length=r:=by omega
 have hr:r<=12:=by omega
 have hc:c<=12:=by omega
 have hv:=(ok.1.at hR hC).2
 have vb:∀ j,j<r->valid (gd b j):=fun j hj=>(all_valid_iff b).1 ok.2 j (by omega)
 have K:∀ o,RefG r c (mxv m.V c) (fun i=>ratOf (gd b i)) o->Q o:=fun o ho=>H o (.inr (.inr ⟨r,c,ok,hR,hC,hbl,ho⟩))
 obtain ⟨d,d0,d1,d2,d3⟩:=mat_cd hr hc hv vb
 have hsz:=szC_M (Nat.le_refl 6300) hc
 have hdt:c*szC 6300 c<=12*25900000:=Nat.mul_le_mul hc hsz
 have hsz2:=szC_M (Nat.le_refl 6300) hr
 have hdt2:r*szC 6300 r<=12*25900000:=Nat.mul_le_mul hr hsz2
 refine W.bd (qm_Of_run ok.1 hR hC fun x hx1 hx2=>W.bd (num_In_run hbl (by omega) (fun k hk=>⟨vb k hk,rfl⟩) fun B hB=>W.bd (qm_Solve_gen (Z:=fun k N=>CdM r (c+1) (szC 6300 k) N) (t:=szC 6300 c) hx1 hx2 hB (by omega) (by omega) (by omega) (by omega) (CdM.mk' d0 d1 (Nat.le_refl _) (augM_all d2 d3)) Grows.cd (fun piv M' xs ker q1 q2 q3 q4=>?_) (fun piv M' i q1 q2 q3 q4=>?_))))
 ·rw [if_pos rfl]
  exact K _ (.inl ⟨q1.none_iff.1 q2,rfl⟩)
 ·rw [if_neg (by simp)]
  have hno: ¬ solv r c (mxv m.V c) (fun i=>ratOf (gd b i)):=fun h=>q4 (q1.none_iff.2 h i q2 q3)
  refine W.bd (qm_Of_run ok.1 hR hC fun x2 hx3 hx4=>W.bd (qm_Turn_run hx3 hx4 (by omega) (by omega) fun t ht1 ht2=>W.bd (num_In_run hbl (by omega) (fun k hk=>⟨vb k hk,rfl⟩) fun B2 hB2=>?_)))
  have htl:=ht2.1
  rw [hC]
  refine W.req_i (by omega) (W.req_i (by show _/\_;omega) (W.req_i (by omega) ?_))
  have e1:((c:Int)+1).toNat=c+1:=by omega
  refine zero_loop (n:=c+1) (by omega) (by rw [e1];simp) (fun l i=>by unfold mat_Refute.l1;rw [hC,e1,List.length_replicate]) fun v0 _ hv0=>?_
  have hv0l:=hv0.1
  unfold mat_Refute.j1
  refine W.bd (num_Q_Int_run (by show _/\_;omega) fun one hone=>?_)
  rw [hC]
  dsimp only
  refine W.req_i (by omega) ?_
  rw [Int.toNat_natCast]
  obtain ⟨A2,hA2⟩:∃ A2:Nat->Nat->Rat,A2=fun i j=>if i<c then mxv m.V c j i else ratOf (gd b j):=⟨_,rfl⟩
  obtain ⟨V2,hV2⟩:∃ V2:Nat->Rat,V2=fun i=>if i=c then 1 else 0:=⟨_,rfl⟩
  have qA:QM (t.V ++ [B2]) (c+1) r A2:=by
   refine QM.snoc (ht2.congr fun i j hi hj=>by rw [hA2];dsimp only;rw [if_pos hi]) (hB2.congr fun j hj=>by rw [hA2];dsimp only;rw [if_neg (Nat.lt_irrefl _)])
  have qV:QL (v0.set c one) (c+1) V2:=(hv0.set (i:=c) (y:=1) (by simpa using hone)).congr fun j hj=>by rw [hV2]
  have cd2:CdM (c+1) (r+1) 6300 (augM r A2 V2):=CdM.mk' d0 d1 (Nat.le_refl _) (augM_all (P:=Fd d 6300) (fun i j hi hj=>by
   rw [hA2];dsimp only
   split
   ·exact d2 j i hj (by omega)
   ·exact d3 j hj) (fun i hi=>by
   rw [hV2];dsimp only
   split
   ·exact Fd.one d0 d1
   ·exact Fd.zero))
  refine W.bd (qm_Solve_gen (r:=c+1) (c:=r) (Z:=fun k N=>CdM (c+1) (r+1) (szC 6300 k) N) (t:=szC 6300 r) (A:=A2) (V:=V2) (x:=⟨m.R,t.V ++ [B2]⟩) hR qA qV (by omega) (by omega) (by omega) (by omega) cd2 Grows.cd (fun piv2 M2 ys ker2 p1 p2 p3 p4=>?_) (fun piv2 M2 i2 p1 p2 p3 p4=>?_))
  ·have hx:=p1.xsol p2
   have y1:∀ k,k<c->sm r (fun i=>mxv m.V c i k*xvp M2 piv2 r piv2.length i)=0:=fun k hk=>by
    have:=hx k (by omega)
    rw [hA2,hV2] at this
    unfold dz at this
    dsimp only at this
    rw [if_neg (show ¬ k=c by omega)] at this
    rw [<- this]
    exact sm_congr fun i _=>by rw [if_pos hk]
   have y2:sm r (fun i=>ratOf (gd b i)*xvp M2 piv2 r piv2.length i)=1:=by
    have:=hx c (by omega)
    rw [hA2,hV2] at this
    unfold dz at this
    dsimp only at this
    rw [if_pos rfl] at this
    rw [<- this]
    exact sm_congr fun i _=>by rw [if_neg (Nat.lt_irrefl _)]
   refine W.bd (num_Outs_run p3 (by omega) (fun t=>?_) (fun t=>?_))
   ·rw [if_pos rfl]
    exact K _ (.inr ⟨hno,_,y1,y2,.inl ⟨t,rfl⟩⟩)
   ·rw [if_neg (by simp)]
    exact K _ (.inr ⟨hno,_,y1,y2,.inr ⟨t,rfl⟩⟩)
  ·obtain ⟨y,y1,y2⟩:=refute_ex hno
   refine absurd (p1.clean (z:=y) (fun i hi=>?_) i2 p2 p3) p4
   rw [hA2,hV2]
   unfold dz
   dsimp only
   by_cases e:i=c
   ·subst e
    rw [if_pos rfl,<- y2]
    exact sm_congr fun j _=>by rw [if_neg (Nat.lt_irrefl _)]
   ·rw [if_neg e,<- y1 i (by omega)]
    exact sm_congr fun j _=>by rw [if_pos (by omega)]
theorem ref04_Refutable_rel {Q:Bool×Int->Prop} (hl:m.V.length<=281474976710656) (hb:b.length<=281474976710656) (H:∀ o,canR m b o->Q o):(ref04_Refutable.f m b).run Q:=by
 unfold ref04_Refutable.f
 refine W.bd (ref04_sided_run hl hb (fun ok hlen=>?_) (fun c=>?_) (fun ok c=>?_))
 rotate_left
 ·rw [if_pos (by decide)];exact H _ (.inl ⟨c,rfl⟩)
 ·rw [if_pos (by decide)];exact H _ (.inr (.inl ⟨ok,c,rfl⟩))
 rw [if_neg (by decide)]
 have o1:=ok.1.1
 have o2:=ok.1.2.1
 obtain ⟨r,hR⟩:=Int.eq_ofNat_of_zero_le o1.1
 obtain ⟨c,hC⟩:=Int.eq_ofNat_of_zero_le o2.1
 have hbl:b.length=r:=by omega
 have hr:r<=12:=by omega
 have hc:c<=12:=by omega
 obtain ⟨hvl,hv⟩:=ok.1.at hR hC
 have vb:∀ j,j<r->valid (gd b j):=fun j hj=>(all_valid_iff b).1 ok.2 j (by omega)
 obtain ⟨d,d0,d1,d2,d3⟩:=mat_cd hr hc hv vb
 have hsz:=szC_M (Nat.le_refl 6300) hc
 refine W.bd (ref04_Rows_run hR hC hr hc hvl hv fun A hA=>W.bd (ref01_List_run hbl (by omega) (fun k hk=>⟨vb k hk,rfl⟩) fun B hB=>?_))
 rw [hC]
 refine W.bd (ref04_Solution_gen (Z:=fun k N=>CdM r (c+1) (szC 6300 k) N) (t0:=szC 6300 c) hA hB (by omega) (by omega) (by omega) (CdM.mk' d0 d1 (Nat.le_refl _) (augM_all d2 d3)) Grows.cd (fun piv M' xs ker q1 q2 q0 q3 q4=>?_) (fun piv M' i q1 q2 q3 q4=>?_))
 ·exact H _ (.inr (.inr ⟨r,c,ok,hR,hC,hbl,.inl ⟨q1.none_iff.1 q2,rfl⟩⟩))
 ·exact H _ (.inr (.inr ⟨r,c,ok,hR,hC,hbl,.inr ⟨fun h=>q4 (q1.none_iff.2 h i q2 q3),rfl⟩⟩))
end
theorem ref02_Same_refl {l:List api_Rat} {Q:Bool->Prop} (H:Q true):(ref02_Same.f l l).run Q:=by
 unfold ref02_Same.f
 refine W.loop_c (fun p=>∃ i:Nat,p=i/\i<=l.length) (fun p=>l.length - p.toNat) ⟨0,rfl,Nat.zero_le _⟩ ?_
 rintro _ P ⟨i,rfl,hi⟩ hgo hbrk hout
 have fin:(ref02_Same.j1 l l).run Q:=by unfold ref02_Same.j1;rw [decide_eq_true rfl];exact H
 unfold ref02_Same.l1
 refine W.run_if (fun c=>W.run_if (fun c2=>W.req_i (by omega) (W.req_i (by omega) ?_)) (fun c2=>hbrk _ fin)) (fun c=>hbrk _ fin)
 rw [if_pos (by simp)]
 exact hgo _ ⟨i+1,by simp,by omega⟩ (by omega)
theorem ref02_SameAll_refl {l:List (List api_Rat)} {Q:Bool->Prop} (H:Q true):(ref02_SameAll.f l l).run Q:=by
 unfold ref02_SameAll.f
 refine W.loop_c (fun p=>∃ i:Nat,p=i/\i<=l.length) (fun p=>l.length - p.toNat) ⟨0,rfl,Nat.zero_le _⟩ ?_
 rintro _ P ⟨i,rfl,hi⟩ hgo hbrk hout
 have fin:(ref02_SameAll.j1 l l).run Q:=by unfold ref02_SameAll.j1;rw [decide_eq_true rfl];exact H
 unfold ref02_SameAll.l1
 refine W.run_if (fun c=>W.run_if (fun c2=>W.req_i (by omega) (W.req_i (by omega) (W.bd (ref02_Same_refl ?_)))) (fun c2=>hbrk _ fin)) (fun c=>hbrk _ fin)
 rw [if_pos rfl]
 exact hgo _ ⟨i+1,by simp,by omega⟩ (by omega)
theorem ratOf_int (n:Int):ratOf ⟨n,1⟩ =(n:Rat):=by unfold ratOf;rw [Rat.divInt_eq_div];grind
theorem toldR_int {n:Int} (h: -1000000000000<=n/\n<=1000000000000):toldR (n:Rat)=(⟨n,1⟩,true):=by
 unfold toldR
 rw [Rat.num_intCast,Rat.den_intCast,if_pos ⟨h.1,h.2,by decide⟩]
 rfl
def mX:api_Mat:=⟨2,2,[⟨1,1⟩,⟨2,1⟩,⟨2,1⟩,⟨4,1⟩]⟩
def bX:List api_Rat:=[⟨3,1⟩,⟨6,1⟩]
theorem okX:okM mX bX:=by
 have v:∀ n:Int,-1000000000000<=n->n<=1000000000000->valid ⟨n,1⟩:=fun n h1 h2=>⟨(by decide:(1:Int)<=1),(by decide:(1:Int)<=1000000000000),h1,h2,by simp⟩
 refine ⟨⟨by decide,by decide,by decide,fun r hr=>?_⟩,fun r hr=>?_⟩
 ·simp only [mX,List.mem_cons,List.not_mem_nil,or_false] at hr
  rcases hr with rfl | rfl | rfl | rfl <;> exact v _ (by decide) (by decide)
 ·simp only [bX,List.mem_cons,List.not_mem_nil,or_false] at hr
  rcases hr with rfl | rfl <;> exact v _ (by decide) (by decide)
theorem solX {o:ToldS} (h:solR mX bX o):o=([⟨3,1⟩,⟨0,1⟩],[[⟨-2,1⟩,⟨1,1⟩]],0):=by
 refine solR.uniq h (.inr (.inr ⟨2,2,okX,rfl,rfl,rfl,.inl ?_⟩))
 obtain ⟨A,hA⟩:∃ A,A=mxv mX.V 2:=⟨_,rfl⟩
 obtain ⟨V,hV⟩:∃ V:Nat->Rat,V=fun i=>ratOf (gd bX i):=⟨_,rfl⟩
 have a00:A 0 0=((1:Int):Rat):=by rw [hA];exact ratOf_int 1
 have a01:A 0 1=((2:Int):Rat):=by rw [hA];exact ratOf_int 2
 have a10:A 1 0=((2:Int):Rat):=by rw [hA];exact ratOf_int 2
 have a11:A 1 1=((4:Int):Rat):=by rw [hA];exact ratOf_int 4
 have v0:V 0=((3:Int):Rat):=by rw [hV];exact ratOf_int 3
 have v1:V 1=((6:Int):Rat):=by rw [hV];exact ratOf_int 6
 rw [<- hA,<- hV]
 have m00:augM 2 A V 0 0=1:=by unfold augM;rw [if_neg (by decide),a00];rfl
 have m01:augM 2 A V 0 1=2:=by unfold augM;rw [if_neg (by decide),a01];rfl
 have m02:augM 2 A V 0 2=3:=by unfold augM;rw [if_pos rfl,v0];rfl
 have m10:augM 2 A V 1 0=2:=by unfold augM;rw [if_neg (by decide),a10];rfl
 have m11:augM 2 A V 1 1=4:=by unfold augM;rw [if_neg (by decide),a11];rfl
 have m12:augM 2 A V 1 2=6:=by unfold augM;rw [if_pos rfl,v1];rfl
 generalize augM 2 A V=N at *
 have st:=(Red.init (r:=2) (c:=3) (M0:=N) (M:=N) fun _ _ _ _=>rfl).step (p:=0) (by decide) (Nat.le_refl _) (by decide) (by rw [m00];decide)
 simp only [List.length_nil,List.nil_append] at st
 have e0:∀ j,elimM (divM (swapM N 0 0) 0 0) 0 0 0 j=N 0 j / N 0 0:=fun j=>by simp [elimM,divM,swapM]
 have e1:∀ j,elimM (divM (swapM N 0 0) 0 0) 0 0 1 j=N 1 j - N 1 0*(N 0 j / N 0 0):=fun j=>by simp [elimM,divM,swapM]
 generalize elimM (divM (swapM N 0 0) 0 0) 0 0=M at *
 have f01:M 0 1=2:=by rw [e0,m01,m00];grind
 have f02:M 0 2=3:=by rw [e0,m02,m00];grind
 have f11:M 1 1=0:=by rw [e1,m11,m10,m01,m00];grind
 have f12:M 1 2=0:=by rw [e1,m12,m10,m02,m00];grind
 have sk:=st.skip (fun i h1 h2=>by
  have:i=1:=by simp at h1;omega
  rw [this];exact f11)
 have x0:xvp M [((0:Nat):Int)] 2 1 0=((3:Int):Rat):=by
  show M 0 2=_
  rw [f02];rfl
 have x1:xvp M [((0:Nat):Int)] 2 1 1=((0:Int):Rat):=rfl
 have k0:krs M [((0:Nat):Int)] 2 0 0=((-2:Int):Rat):=by
  show - M 0 1=_
  rw [f01];rfl
 have k1:krs M [((0:Nat):Int)] 2 0 1=((1:Int):Rat):=rfl
 have two:∀ (x:Nat->Rat) (p q:Int),x 0=(p:Rat)->x 1=(q:Rat)->(-1000000000000<=p/\p<=1000000000000)->(-1000000000000<=q/\q<=1000000000000)->allTold 2 x/\tolds 2 x= [⟨p,1⟩,⟨q,1⟩]:=by
  intro x p q h1 h2 h3 h4
  refine ⟨fun i hi=>?_,?_⟩
  ·rcases (show i=0\/i=1 by omega) with rfl | rfl
   ·rw [h1,toldR_int h3]
   ·rw [h2,toldR_int h4]
  ·show [(toldR (x 0)).1,(toldR (x 1)).1] =_
   rw [h1,h2,toldR_int h3,toldR_int h4]
 obtain ⟨t1,t2⟩:=two (xvp M [((0:Nat):Int)] 2 1) 3 0 x0 x1 (by decide) (by decide)
 obtain ⟨t3,t4⟩:=two (krs M [((0:Nat):Int)] 2 0) (-2) 1 k0 k1 (by decide) (by decide)
 refine ⟨_,M,sk,fun i h1 h2=>?_,.inl ⟨⟨t1,fun a ha=>?_⟩,?_⟩⟩
 ·have:i=1:=by simp at h1;omega
  rw [this];exact f12
 ·have:a=0:=by
   have:(freeL [((0:Nat):Int)] 2).length=1:=rfl
   omega
  rw [this];exact t3
 ·show _=(tolds 2 (xvp M [((0:Nat):Int)] 2 1),[tolds 2 (krs M [((0:Nat):Int)] 2 0)],0)
  rw [t2,t4]
theorem W.retb {α β:Type} {a:α} {k:α->W β} {Q:β->Prop} (h:(k a).run Q):(W.bind (W.ret a) k).run Q:=W.bd h
theorem mat_SolveX {Q:ToldS->Prop} (H:Q ([⟨3,1⟩,⟨0,1⟩],[[⟨-2,1⟩,⟨1,1⟩]],0)):(mat_Solve.f (⟨2,2,[⟨1,1⟩,⟨2,1⟩,⟨2,1⟩,⟨4,1⟩]⟩:api_Mat) [⟨3,1⟩,⟨6,1⟩]).run Q:=
 mat_Solve_rel (m:=mX) (b:=bX) (by decide) (by decide) fun o ho=>by rw [solX ho];exact H
theorem law04_known_run {Q:Bool->Prop} (H:Q true):law04_known.f.run Q:=by
 unfold law04_known.f law04_known_1.f
 refine W.retb (W.retb (W.retb (W.retb (W.retb (W.retb (W.bd (mat_SolveX ?_)))))))
 refine W.retb (W.retb (W.bd (ref02_Same_refl ?_)))
 rw [if_pos rfl,if_pos (by rfl)]
 refine W.req_i (by decide) (W.retb (W.retb (W.bd (ref02_Same_refl ?_))))
 rw [if_pos rfl]
 exact H
theorem law04_MatSolves_run {m:api_Mat} {b:List api_Rat} (hl:m.V.length<=281474976710656) (hb:b.length<=281474976710656):(law04_MatSolves.f m b).run (fun b=>b=true):=by
 unfold law04_MatSolves.f
 refine W.bd (mat_Solve_rel hl hb fun o ho=>W.bd (ref04_Solve_rel hl hb fun p hp=>?_))
 obtain rfl:=solR.uniq ho hp
 rw [if_neg (by simp)]
 refine W.bd (ref02_Same_refl ?_)
 rw [if_pos rfl]
 refine W.bd (ref02_SameAll_refl ?_)
 rw [if_pos rfl]
 refine W.bd (mat_Refute_rel hl hb fun u hu=>W.bd (ref04_Refutable_rel hl hb fun v hv=>?_))
 have known:(W.bind law04_known.f (fun r=>W.ret r)).run (fun b=>b=true):=W.bd (law04_known_run rfl)
 have plain:∀ e:Int,e≠3->u=([],false,e)->v=(false,e)->(if u.2.2=3 then (if v.1=true then (W.bind law04_known.f (fun r=>W.ret r)) else (if u.2.2≠v.2 then (W.ret false) else (if (u.2.1 == v.1)=true then (law04_MatSolves.j1 u m b) else (W.ret false)))) else (if u.2.2≠v.2 then (W.ret false) else (if (u.2.1 == v.1)=true then (law04_MatSolves.j1 u m b) else (W.ret false)))).run (fun b=>b=true):=by
  rintro e he rfl rfl
  rw [if_neg he,if_neg (by simp),if_pos (by rfl)]
  unfold law04_MatSolves.j1
  rw [if_neg (by simp),if_pos (by rfl)]
  exact known
 rcases hu with ⟨a1,rfl⟩ | ⟨a1,a2,rfl⟩ | ⟨r,c,a1,a2,a3,a4,a5⟩
 ·rcases hv with ⟨b1,rfl⟩ | ⟨b1,b2,rfl⟩ | ⟨r',c',b1,b2,b3,b4,b5⟩
  ·exact plain 1 (by decide) rfl rfl
  ·exact absurd b1 a1
  ·exact absurd b1 a1
 ·rcases hv with ⟨b1,rfl⟩ | ⟨b1,b2,rfl⟩ | ⟨r',c',b1,b2,b3,b4,b5⟩
  ·exact absurd a1 b1
  ·exact plain 8 (by decide) rfl rfl
  ·omega
 ·rcases hv with ⟨b1,rfl⟩ | ⟨b1,b2,rfl⟩ | ⟨r',c',b1,b2,b3,b4,b5⟩
  ·exact absurd a1 b1
  ·omega
  ·obtain rfl:r=r':=by omega
   obtain rfl:c=c':=by omega
   rcases a5 with ⟨s1,rfl⟩ | ⟨s1,y,y1,y2,s2⟩
   ·rcases b5 with ⟨_,rfl⟩ | ⟨t1,_⟩
    ·exact plain 0 (by decide) rfl rfl
    ·exact absurd s1 t1
   ·rcases b5 with ⟨t1,_⟩ | ⟨_,rfl⟩
    ·exact absurd t1 s1
    rcases s2 with ⟨w1,rfl⟩ | ⟨w1,rfl⟩
    ·rw [if_neg (show ¬ (0:Int)=3 by decide),if_neg (by simp),if_pos (by rfl)]
     unfold law04_MatSolves.j1
     rw [if_pos rfl]
     refine W.bd (ref04_Refutes_run hl hb a1 a2 a3 a4 w1 y1 y2 ?_)
     rw [if_pos rfl]
     exact known
    ·rw [if_pos rfl,if_pos rfl]
     exact known
end Go.Proofs.YtlmpoindlejefaaGreat.E
