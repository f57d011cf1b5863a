/- Joined. -/
import Derived.Test.YtlmpoindlejefaaGreatLM37
set_option linter.unusedVariables false
set_option linter.unusedSimpArgs false
namespace Go.Proofs.YtlmpoindlejefaaGreat.E
open Go Go.RowKit
theorem Red.ex {r c s:Nat} {M:Nat->Nat->Rat} (h:CdM r c s M):∀ k,k<=c->∃ M' piv,Red r c M M' k piv/\CdM r c (szC s k) M'
 | 0,_=>⟨M,[],Red.init fun _ _ _ _=>rfl,h⟩
 | k+1,hk=>by
  obtain ⟨M1,piv,h1,h2⟩:=Red.ex h k (by omega)
  by_cases hz:∀ i,piv.length<=i->i<r->M1 i k=0
  ·exact ⟨M1,piv,h1.skip hz,h2.mono (szC_mono s (Nat.le_succ _))⟩
  ·simp only [Classical.not_forall] at hz
   obtain ⟨p,hp1,hp2,hp3⟩:=hz
   exact ⟨_,_,h1.step (by omega) hp1 hp2 hp3,h2.step (by omega) hp2 (by omega) hp3⟩
theorem near_small {n:Nat} {A:Nat->Nat->Rat} {V:Nat->Rat} (hn:n<=12) (cA:∃ d:Int,d≠0/\Bt 12560 d/\∀ i k,i<n->k<n->Fd d 12572 (A i k)) (hs:∀ i k,A i k=A k i)
  (cB:CdM n (n+1) 25160 (augM n (fun i k=>sm n fun l=>A i l*A l k) V)) (hsol:∃ z:Nat->Rat,∀ i,i<n->dz n (fun k=>sm n fun l=>A i l*A l k) z=V i):∃ x,NV n A V x/\∀ i,i<n->Sz 103200000 (x i):=by
 obtain ⟨M',piv,q2,q3⟩:=Red.ex cB n (by omega)
 obtain ⟨zz,hzz⟩:=hsol
 have hx:=q2.xsol (q2.clean hzz)
 obtain ⟨d,d0,d1,d2⟩:=(q3.mono (szC_12 (Nat.le_refl 25160) hn)).xfd q2.le
 obtain ⟨e,e0,e1,e2⟩:=cA
 generalize hzd:xvp M' piv n piv.length=zv at *
 have hxt:∀ t,12572+103100000+n<=t->∀ i,i<n->Sz t (dz n (A i) zv):=fun t ht i hi=>by
  have f1:Fd (e*d) (12572+103100000+n) (dz n (A i) zv):=Fd.sm fun j hj=>(e2 i j hi hj).mul (d2 j) e0 d0
  exact (f1.mono ht).sz (Int.mul_ne_zero e0 d0) (bits_mono (bits_mul e1 d1) (by omega))
 exact ⟨fun k=>dz n (A k) zv,NV.range hs fun i hi=>by rw [<- square_dz];exact hx i hi,hxt 103200000 (by omega)⟩
section
variable {r c:Nat} {A:Nat->Nat->Rat} {V:Nat->Rat} {M:Nat->Nat->Rat} {piv:List Int}
def kr (M:Nat->Nat->Rat) (piv:List Int) (c i:Nat):Nat->Rat:=kv M piv (gd (freeL piv c) i)
theorem gd_in {l:List Nat} {i:Nat} (h:i<l.length):gd l i ∈ l:=by rw [gd_lt h];exact List.getElem_mem h
theorem freeL_nodup (piv:List Int):∀ n i j,i<(freeL piv n).length->j<(freeL piv n).length->gd (freeL piv n) i=gd (freeL piv n) j->i=j
 | 0,i,j,hi,_,_=>by simp [freeL] at hi
 | n+1,i,j,hi,hj,h=>by
  have ih:=freeL_nodup piv n
  have lt:∀ a,a<(freeL piv n).length->gd (freeL piv n) a<n:=fun a ha=>(freeL_mem.1 (gd_in ha)).1
  unfold freeL at hi hj h
  split at hi
  ·rename_i e
   rw [if_pos e] at hj h
   rw [List.length_append,List.length_singleton] at hi hj
   rw [gd_app,gd_app] at h
   by_cases h1:i<(freeL piv n).length
   ·by_cases h2:j<(freeL piv n).length
    ·rw [if_pos h1,if_pos h2] at h;exact ih i j h1 h2 h
    ·rw [if_pos h1,if_neg h2,show j - (freeL piv n).length=0 by omega] at h
     have:=lt i h1
     have e2:gd [n] 0=n:=rfl
     omega
   ·by_cases h2:j<(freeL piv n).length
    ·rw [if_neg h1,if_pos h2,show i - (freeL piv n).length=0 by omega] at h
     have:=lt j h2
     have e2:gd [n] 0=n:=rfl
     omega
    ·omega
  ·rename_i e
   rw [if_neg e] at hj h
   exact ih i j hi hj h
theorem kr_at {i j:Nat} (hi:i<(freeL piv c).length) (hj:j<(freeL piv c).length):kr M piv c i (gd (freeL piv c) j)=if j=i then 1 else 0:=by
 unfold kr
 by_cases e:j=i
 ·subst e;rw [if_pos rfl,kv_self]
 ·rw [if_neg e]
  exact kv_free (freeL_mem.1 (gd_in hj)).2 fun h=>e (freeL_nodup piv c j i hj hi h)
theorem gram_sol (x:Nat->Rat):∃ t,Sol (freeL piv c).length (fun i k=>sm c fun q=>kr M piv c i q*kr M piv c k q) (fun i=>- sm c fun q=>kr M piv c i q*x q) t:=by
 obtain ⟨t,ht⟩:=normal_sol c (freeL piv c).length (fun q i=>kr M piv c i q) (fun q=>- x q)
 have ht':∀ i,i<(freeL piv c).length->dz (freeL piv c).length (fun k=>sm c fun q=>kr M piv c i q*kr M piv c k q) t= - sm c fun q=>kr M piv c i q*x q:=fun i hi=>by
  rw [ht i hi,sm_congr (g:=fun q=>(-1)*(kr M piv c i q*x q)) fun q _=>by grind,sm_mul];grind
 refine ⟨t,fun y=>⟨fun hy=>?_,fun hy i hi=>by rw [dz_ext hy];exact ht' i hi⟩⟩
 have hu:∀ i,i<(freeL piv c).length->dz (freeL piv c).length (fun k=>sm c fun q=>kr M piv c i q*kr M piv c k q) (fun i=>y i - t i)=0:=fun i hi=>by rw [dz_minus,hy i hi,ht' i hi];grind
 have hsq:sm c (fun q=>sm (freeL piv c).length (fun k=>kr M piv c k q*(y k - t k))*sm (freeL piv c).length (fun k=>kr M piv c k q*(y k - t k)))=0:=by
  refine orth (r:=c) (c:=(freeL piv c).length) (m:=fun q k=>kr M piv c k q) (fun k=>y k - t k) fun i hi=>?_
  rw [<- hu i hi]
  unfold dz
  rw [sm_congr (g:=fun q=>sm (freeL piv c).length (fun k=>kr M piv c i q*(kr M piv c k q*(y k - t k)))) fun q _=>(sm_mul _ _ _).symm,sm_exch]
  exact sm_congr fun k _=>by rw [<- sm_mulr];exact sm_congr fun q _=>by grind
 have hz:=sm_sq hsq
 intro i hi
 have hf:=freeL_mem.1 (gd_in hi)
 have:=hz _ hf.1
 rw [sm_one hi fun k hk hne=>by rw [kr_at hk hi,if_neg (Ne.symm hne),Rat.zero_mul],kr_at hi hi,if_pos rfl] at this
 grind
theorem Red.near (h:Red r (c+1) (augM c A V) M c piv) (h0:∀ i,piv.length<=i->i<r->M i c=0) {t:Nat->Rat} (hr:r=c)
  (ht:∀ i,i<(freeL piv c).length->dz (freeL piv c).length (fun k=>sm c fun q=>kr M piv c i q*kr M piv c k q) t= - sm c fun q=>kr M piv c i q*xvp M piv c piv.length q) :
  NV c A V (fun q=>xvp M piv c piv.length q+sm (freeL piv c).length (fun a=>t a*kr M piv c a q)):=by
 subst hr
 refine ⟨fun i hi=>?_,fun y hy=>?_⟩
 ·have e1:=h.xsol h0 i hi
  have e2:∀ a,a<(freeL piv r).length->dz r (A i) (kr M piv r a)=0:=fun a ha=>by
   have:=freeL_mem.1 (gd_in ha)
   exact h.kv0 this.1 this.2 i hi
  unfold dz at e1 e2 |-
  rw [sm_congr (g:=fun q=>A i q*xvp M piv r piv.length q+sm (freeL piv r).length (fun a=>t a*(A i q*kr M piv r a q))) fun q _=>by
   rw [Rat.mul_add,<- sm_mul];congr 1;exact sm_congr fun a _=>by grind,sm_add,e1,sm_exch,sm_zero fun a ha=>by rw [sm_mul,e2 a ha,Rat.mul_zero],Rat.add_zero]
 ·have sp:=h.span hy
  have e1:∀ a,a<(freeL piv r).length->sm r (fun q=>kr M piv r a q*(xvp M piv r piv.length q+sm (freeL piv r).length (fun k=>t k*kr M piv r k q)))=0:=fun a ha=>by
   have:=ht a ha
   unfold dz at this
   rw [sm_congr (g:=fun q=>kr M piv r a q*xvp M piv r piv.length q+sm (freeL piv r).length (fun k=>kr M piv r a q*kr M piv r k q*t k)) fun q _=>by
    rw [Rat.mul_add,<- sm_mul];congr 1;exact sm_congr fun k _=>by grind,sm_add,sm_exch,sm_congr (g:=fun k=>sm r (fun q=>kr M piv r a q*kr M piv r k q)*t k) fun k _=>sm_mulr _ _ _,this]
   grind
  rw [sm_congr (g:=fun q=>sm (freeL piv r).length (fun a=>y (gd (freeL piv r) a)*(kr M piv r a q*(xvp M piv r piv.length q+sm (freeL piv r).length (fun k=>t k*kr M piv r k q))))) fun q hq=>by
   rw [sp q hq,<- sm_mulr];exact sm_congr fun a _=>by unfold kr;grind,sm_exch]
  exact sm_zero fun a ha=>by rw [sm_mul,e1 a ha,Rat.mul_zero]
end
end Go.Proofs.YtlmpoindlejefaaGreat.E
namespace Go.Proofs.YtlmpoindlejefaaGreat.E
open Go Go.RowKit
theorem szC_k {n:Nat} (hn:n<=12):szC 206200100 n<=845000000000:=by
 have h1:=szC_mono 206200100 hn
 have h2:szC 206200100 12<=845000000000:=by simp only [szC];omega
 omega
section
variable {m:api_Mat} {b:List api_Rat} {Q:Told->Prop}
theorem ref27_Nearest_gram {a:List ref01_Q×List (List ref01_Q)×Bool} {c kk:Nat} {x:Nat->Rat} {D:Nat->Nat->Rat} {e:List ref01_Q} (hx:RL a.1 c x) (hk:RM a.2.1 kk c D) (hc:c<=12) (hkk:kk<=12) (sx:∀ q,q<c->Sz 103100000 (x q)) (sD:∀ i q,i<kk->q<c->Sz 103100000 (D i q))
  (H:∀ g w,RM g kk kk (fun i k=>sm c fun q=>D i q*D k q)->RL w kk (fun i=>- sm c fun q=>D i q*x q)->(ref27_Nearest.j1 a m e g w).run Q) :
  (W.bind (W.loop (fun (s:List (List ref01_Q)×List ref01_Q×Int)=>ref27_Nearest.l3 a s.1 s.2.1 s.2.2) (List.replicate kk ([]:List ref01_Q),List.replicate kk (⟨⟨[],false⟩,⟨[],false⟩⟩:ref01_Q),0)) (Lp.on (fun s=>ref27_Nearest.j1 a m e s.1 s.2.1) (fun r=>W.ret r))).run Q:=by
 have hkl:=hk.1
 refine W.loop_c (fun s:List (List ref01_Q)×List ref01_Q×Int=>∃ i:Nat,s.2.2=i/\i<=kk/\s.1.length=kk/\s.2.1.length=kk/\(∀ a,a<i->RL (gd s.1 a) kk (fun k=>sm c fun q=>D a q*D k q))/\(∀ a,i<=a->a<kk->gd s.1 a= [])/\∀ a,a<i->RRep (gd s.2.1 a) (- sm c fun q=>D a q*x q)) (fun s=>kk - s.2.2.toNat) ⟨0,rfl,Nat.zero_le _,by simp,by simp,fun a ha=>by omega,fun a _ ha=>gd_rep ha,fun a ha=>by omega⟩ ?_
 rintro ⟨g,w,_⟩ P ⟨i,rfl,hi,g1,w1,g2,g3,w2⟩ hgo hbrk hout
 simp only at g1 w1 g2 g3 w2 hgo |-
 unfold ref27_Nearest.l3
 rw [hkl]
 refine W.run_if (fun c1=>?_) (fun c1=>hbrk _ (by
  obtain rfl:i=kk:=by omega
  exact H _ _ ⟨g1,g2⟩ ⟨w1,w2⟩))
 have hik:i<kk:=by omega
 refine W.loop_c (fun s:List (List ref01_Q)×Int=>∃ k:Nat,s.2=k/\k<=kk/\s.1.length=kk/\(∀ a,a<i->RL (gd s.1 a) kk (fun k=>sm c fun q=>D a q*D k q))/\(∀ a,i<a->a<kk->gd s.1 a= [])/\RL (gd s.1 i) k (fun k=>sm c fun q=>D i q*D k q)) (fun s=>kk - s.2.toNat) ⟨0,rfl,Nat.zero_le _,g1,g2,fun a h1 h2=>g3 a (by omega) h2,by rw [g3 i (Nat.le_refl _) hik];exact ⟨rfl,fun i hi=>by omega⟩⟩ ?_
 rintro ⟨g',_⟩ P2 ⟨k,rfl,hk',k1,k2,k3,k4⟩ hgo2 hbrk2 hout2
 simp only at k1 k2 k3 k4 hgo2 |-
 unfold ref27_Nearest.l4
 rw [hkl]
 simp only [gi_gd]
 have ri:=hk.2 i hik
 refine W.run_if (fun c2=>?_) (fun c2=>hbrk2 _ ?_)
 ·have hkn:k<kk:=by omega
  have l4:=k4.1
  refine W.req_i (by omega) (W.req_i (by omega) (W.req_i (by omega) (W.bd (ref27_dot_run ri (hk.2 k hkn) (by omega) (by omega) (by omega) (fun q hq=>sD i q hik hq) (fun q hq=>sD k q hkn hq) fun y hy=>W.req_i (by omega) (W.req_i (by omega) (hgo2 _ ⟨k+1,by simp,by omega,by simp [k1],fun a ha=>?_,fun a h1 h2=>?_,?_⟩ (by simp;omega)))))))
  ·simp only [Int.toNat_natCast]
   rw [gd_set,if_neg (by omega)];exact k2 a ha
  ·simp only [Int.toNat_natCast]
   rw [gd_set,if_neg (by omega)];exact k3 a h1 h2
  ·simp only [Int.toNat_natCast]
   rw [gd_set,if_pos ⟨rfl,by omega⟩];exact k4.snoc hy
 ·obtain rfl:k=kk:=by omega
  unfold ref27_Nearest.j5
  rw [hkl]
  simp only [gi_gd]
  refine W.req_i (by omega) (W.bd (ref27_dot_run ri hx (by omega) (by omega) (by omega) (fun q hq=>sD i q hik hq) sx fun y hy=>W.bd (ref01_Neg_run hy fun y' hy'=>W.req_i (by omega) ?_)))
  unfold ref27_Nearest.j4
  refine hgo _ ⟨i+1,by simp,by omega,k1,by simp [w1],fun a ha=>?_,fun a h1 h2=>k3 a (by omega) h2,fun a ha=>?_⟩ (by simp;omega)
  ·by_cases e:a=i
   ·subst e;exact k4
   ·exact k2 a (by omega)
  ·simp only [Int.toNat_natCast]
   rw [gd_set]
   by_cases e:i=a
   ·subst e;rw [if_pos ⟨rfl,by omega⟩];exact hy'
   ·rw [if_neg (by omega)];exact w2 a (by omega)
end
end Go.Proofs.YtlmpoindlejefaaGreat.E
namespace Go.Proofs.YtlmpoindlejefaaGreat.E
open Go Go.RowKit
section
variable {m:api_Mat} {b:List api_Rat} {Q:Told->Prop}
theorem ref27_Nearest_sum {a:List ref01_Q×List (List ref01_Q)×Bool} {tt:List ref01_Q×Bool} {e:List ref01_Q} {c kk:Nat} {x t:Nat->Rat} {D:Nat->Nat->Rat} {d f:Int} {s1 s2:Nat} (hs1:s1<=103100000) (hs2:s2<=845000000000) (hx:RL a.1 c x) (hk:RM a.2.1 kk c D) (ht:RL tt.1 kk t) (hc:c<=12) (hkk:kk<=12) (d0:d≠0) (d1:d.natAbs<2 ^ s1) (dx:∀ q,q<c->Fd d s1 (x q)) (dD:∀ i q,i<kk->q<c->Fd d s1 (D i q))
  (f0:f≠0) (f1:f.natAbs<2 ^ s2) (ft:∀ i,i<kk->Fd f s2 (t i))
  (H:∀ o,RL o c (fun q=>x q+sm kk (fun i=>t i*D i q))->(ref27_Nearest.j2 m e o).run Q) :
  (W.bind (W.loop (fun (s:List ref01_Q×Int)=>ref27_Nearest.l1 a tt s.1 s.2) (a.1,0)) (Lp.on (fun s=>ref27_Nearest.j2 m e s.1) (fun r=>W.ret r))).run Q:=by
 have hkl:=hk.1
 have htl:=ht.1
 have st:∀ i,i<kk->Sz s2 (t i):=fun i hi=>(ft i hi).sz f0 f1
 have sD:∀ i q,i<kk->q<c->Sz s1 (D i q):=fun i q hi hq=>(dD i q hi hq).sz d0 d1
 have sp:∀ i q,i<=kk->q<c->Ok (x q+sm i (fun i=>t i*D i q)):=fun i q hi hq=>by
  have e1:Fd (f*d) (s2+s1+i) (sm i (fun i=>t i*D i q)):=Fd.sm fun j hj=>(ft j (by omega)).mul (dD j q (by omega) hq) f0 d0
  have e2:=(dx q hq).up (e:=f) d0 f0 f1
  rw [Int.mul_comm] at e2
  have e3:=Fd.add (e2.mono (t:=s2+s1+i) (by omega)) e1
  exact (e3.sz (Int.mul_ne_zero f0 d0) (bits_mono (bits_mul f1 d1) (by omega))).ok (by omega)
 refine W.loop_c (fun s:List ref01_Q×Int=>∃ i:Nat,s.2=i/\i<=kk/\RL s.1 c (fun q=>x q+sm i (fun i=>t i*D i q))) (fun s=>kk - s.2.toNat) ⟨0,rfl,Nat.zero_le _,hx.congr fun q _=>(Rat.add_zero _).symm⟩ ?_
 rintro ⟨o,_⟩ P ⟨i,rfl,hi,h1⟩ hgo hbrk hout
 simp only at h1 hgo |-
 unfold ref27_Nearest.l1
 rw [hkl]
 refine W.run_if (fun c1=>?_) (fun c1=>hbrk _ (by
  obtain rfl:i=kk:=by omega
  exact H _ h1))
 have hik:i<kk:=by omega
 have hol:=h1.1
 refine W.loop_c (fun s:List ref01_Q×Int=>∃ k:Nat,s.2=k/\k<=c/\RL s.1 c (fun q=>if q<k then x q+sm (i+1) (fun i=>t i*D i q) else x q+sm i (fun i=>t i*D i q))) (fun s=>c - s.2.toNat) ⟨0,rfl,Nat.zero_le _,h1.congr fun q _=>by rw [if_neg (by omega)]⟩ ?_
 rintro ⟨o2,_⟩ P2 ⟨k,rfl,hk',k1⟩ hgo2 hbrk2 hout2
 simp only at k1 hgo2 |-
 have hol2:=k1.1
 unfold ref27_Nearest.l2
 rw [hol]
 simp only [gi_gd]
 refine W.run_if (fun c2=>?_) (fun c2=>hbrk2 _ ?_)
 ·have hkc:k<c:=by omega
  have ri:=hk.2 i hik
  have ril:=ri.1
  have cell:=k1.2 k hkc
  dsimp only at cell
  rw [if_neg (Nat.lt_irrefl _)] at cell
  refine W.req_i (by omega) (W.req_i (by omega) (W.req_i (by omega) (W.req_i (by omega) (W.bd (ref01_Mul_run (ht.2 i hik) (ri.2 k hkc) ((st i hik).ok (by omega)) ((sD i k hik hkc).ok (by omega)) fun y hy=>W.bd (ref01_Add_run cell hy (sp i k (by omega) hkc) (((st i hik).mul (sD i k hik hkc)).ok (by omega)) fun u hu=>W.req_i (by omega) (hgo2 _ ⟨k+1,by simp,by omega,?_⟩ (by simp;omega))))))))
  simp only [Int.toNat_natCast]
  refine (k1.set hu).congr fun q hq=>?_
  by_cases e:q=k
  ·subst e
   rw [if_pos rfl,if_pos (Nat.lt_succ_self _),sm,Rat.add_assoc]
  ·rw [if_neg e]
   by_cases e2:q<k
   ·rw [if_pos e2,if_pos (by omega)]
   ·rw [if_neg e2,if_neg (by omega)]
 ·obtain rfl:k=c:=by omega
  unfold ref27_Nearest.j3
  exact hgo _ ⟨i+1,by simp,by omega,k1.congr fun q hq=>by rw [if_pos hq]⟩ (by simp;omega)
theorem ref27_Nearest_rel (hl:m.V.length<=281474976710656) (hb:b.length<=281474976710656) (H:∀ o,argsR m b (NearG m b) o->Q o):(ref27_Nearest.f m b).run Q:=by
 unfold ref27_Nearest.f
 refine ref_args hl hb H fun r c ok vb hR hC hbl hr hc K=>?_
 have hv:=(ok.at hR hC).2
 obtain ⟨x1,nv1,sx1⟩:∃ x,NV c (gA m.V c r) (gV m.V b c r) x/\∀ i,i<c->Sz 103200000 (x i):=by
  obtain ⟨d,d0,d1,d2,d3⟩:=sums_cd hr hc hv vb
  exact near_small hc ⟨d,d0,d1,d2⟩ (gA_symm m.V c r) (square_cdM hr hc hv vb) (square_sol r c (mxv m.V c) (fun j=>ratOf (gd b j)))
 refine W.bd (ref01_List_run hbl (by omega) (fun k hk=>⟨vb k hk,rfl⟩) fun B hB=>W.bd (ref27_sums_run ok hR hC hB (fun j hj=>(vb j hj).sz) fun N V q hN hV hq=>?_))
 rw [hC]
 refine W.bd (ref04_Solution_gen (V:=gV m.V b c r) (Z:=fun k N=>CdM c (c+1) (szC 12572 k) N) (t0:=szC 12572 c) hN hV (by omega) (by omega) (by have:=szC_12 (show 12572<=25160 by omega) hc;omega) (sums_cdM hr hc hv vb) Grows.cd (fun piv M' x ker q2 h0 q3 hx hker=>?_) (fun piv M' i q2 h1 h2 h3=>?_))
 ·have hkk:(freeL piv c).length<=12:=Nat.le_trans (freeL_len _ _) hc
  have hkl:=hker.1
  obtain ⟨s1,hs1⟩:∃ s,s=szC 12572 c:=⟨_,rfl⟩
  have hs1l:s1<=103100000:=by have:=szC_12 (show 12572<=25160 by omega) hc;omega
  rw [<- hs1] at q3
  obtain ⟨e,e0,e1,e2⟩:=q3
  have hple:=q2.le
  have dx:∀ q,q<c->Fd e s1 (xvp M' piv c piv.length q):=fun q hq=>by
   unfold xvp
   cases hp:pix piv q piv.length with
   | none=>exact Fd.zero
   | some a=>exact e2 a c (by have:=(pix_some hp).1;omega) (by omega)
  have dD:∀ i q,i<(freeL piv c).length->q<c->Fd e s1 (kr M' piv c i q):=fun i q hi hq=>by
   unfold kr kv kvp
   split
   ·exact Fd.one e0 e1
   ·cases hp:pix piv q piv.length with
    | none=>exact Fd.zero
    | some a=>exact (e2 a _ (by have:=(pix_some hp).1;omega) (by have:=(freeL_mem.1 (gd_in hi)).1;omega)).neg
  dsimp only
  rw [hkl,Int.toNat_natCast]
  refine W.req_i (by omega) (W.req_i (by omega) ?_)
  refine ref27_Nearest_gram (D:=kr M' piv c) hx hker hc hkk (fun q hq=>((dx q hq).sz e0 e1).mono hs1l) (fun i q hi hq=>((dD i q hi hq).sz e0 e1).mono hs1l) fun g w hg hw=>?_
  unfold ref27_Nearest.j1
  obtain ⟨S,hS⟩:∃ S,S=s1+s1+c:=⟨_,rfl⟩
  have hSk:szC S (freeL piv c).length<=845000000000:=Nat.le_trans (szC_le (show S<=206200100 by omega) _) (szC_k hkk)
  have cG:CdM (freeL piv c).length ((freeL piv c).length+1) S (augM (freeL piv c).length (fun i k=>sm c fun q=>kr M' piv c i q*kr M' piv c k q) (fun i=>- sm c fun q=>kr M' piv c i q*xvp M' piv c piv.length q)):=
   ⟨e*e,Int.mul_ne_zero e0 e0,bits_mono (bits_mul e1 e1) (by omega),augM_all (P:=Fd (e*e) S) (fun i k hi hk=>(Fd.sm fun q hq=>(dD i q hi hq).mul (dD k q hk hq) e0 e0).mono (by omega)) (fun i hi=>((Fd.sm fun q hq=>(dD i q hi hq).mul (dx q hq) e0 e0).neg).mono (by omega))⟩
  refine W.bd (ref27_alone_gen (Z:=fun k N=>CdM (freeL piv c).length ((freeL piv c).length+1) (szC S k) N) (t0:=szC S (freeL piv c).length) hg hw (by omega) (by omega) cG Grows.cd (fun out t k1 k2 ⟨M2,k3,k4⟩=>?_) (fun out k2=>?_))
  ·have hxl:=hx.1
   refine W.req_i (show x.length<=2199023255552 by omega) ?_
   obtain ⟨f,f0,f1,f2⟩:=k3
   refine ref27_Nearest_sum (D:=kr M' piv c) hs1l hSk hx hker k1 hc hkk e0 e1 dx dD f0 f1 (fun i hi=>by rw [k4 i hi];exact f2 i _ hi (by omega)) fun o ho=>?_
   have nv:=q2.near h0 rfl (t:=t) fun i hi=>((k2 t).2 fun _ _=>rfl) i hi
   have sz:∀ i,i<c->Sz 16400000000 ((fun q=>xvp M' piv c piv.length q+sm (freeL piv c).length (fun a=>t a*kr M' piv c a q)) i):=fun i hi=>by
    have e:=nv1.uniq nv i hi
    dsimp only at e |-
    rw [<- e];exact (sx1 i hi).mono (by omega)
   unfold ref27_Nearest.j2
   exact W.bd (ref27_errorOf_run ok hR hC hB ho (fun j hj=>(vb j hj).sz) sz fun u hu=>W.bd (ref27_told_rel ho hc hu fun t' ht'=>K t' ⟨_,nv,ht'⟩))
  ·obtain ⟨t,ht⟩:=gram_sol (M:=M') (piv:=piv) (c:=c) (xvp M' piv c piv.length)
   exact absurd ht (k2 t)
 ·obtain ⟨zz,hz⟩:=normal_sol r c (mxv m.V c) (fun j=>ratOf (gd b j))
  exact absurd (q2.clean hz i h1 h2) h3
theorem law27_FitLeast_run {h:Int} (hl:m.V.length<=281474976710656) (hb:b.length<=281474976710656):(law27_FitLeast.f m b h).run (fun b=>b=true):=by
 unfold law27_FitLeast.f
 refine W.bd (fit_Least_rel hl hb fun o ho=>W.bd (ref27_Least_rel hl hb fun p hp=>?_))
 obtain rfl:=argsR.uniq (fun r c=>LeastG.uniq r c) ho hp
 refine W.bd (law27_same_refl ?_)
 rw [if_pos rfl,if_pos (by simp),if_neg (by simp)]
 refine W.bd (fit_Nearest_rel hl hb fun o ho=>W.bd (ref27_Nearest_rel hl hb fun p hp=>?_))
 obtain rfl:=argsR.uniq (fun r c=>NearG.uniq r c) ho hp
 refine W.bd (law27_same_refl ?_)
 rw [if_pos rfl,if_pos (by simp),if_neg (by simp)]
 refine W.bd (fit_Sense_rel hl hb fun o ho=>W.bd (ref27_Sense_rel hl hb fun p hp=>?_))
 obtain rfl:=senseR.uniq ho hp
 refine W.bd (law27_same_refl ?_)
 rw [if_pos rfl,if_pos rfl]
 exact W.bd (law27_known_run rfl)
end
end Go.Proofs.YtlmpoindlejefaaGreat.E
