/- Joined. -/
import Derived.Test.YtlmpoindlejefaaGreatLM35
set_option linter.unusedVariables false
set_option linter.unusedSimpArgs false
namespace Go.Proofs.YtlmpoindlejefaaGreat.E
open Go Go.RowKit
section
variable {m:api_Mat} {b:List api_Rat} {Q:Told->Prop}
theorem ref27_told_rel {l:List ref01_Q} {o:ref01_Q} {n:Nat} {A:Nat->Nat->Rat} {V:Nat->Rat} {q:Rat} {x:Nat->Rat} (hl:RL l n x) (hn:n<=12) (ho:RRep o (errQ n A V q x)) (H:∀ t,toldO n A V q x t->Q t):(ref27_told.f l o).run fun a=>Q (a.1,a.2.1,a.2.2):=
 ref27_told_run hl (by omega) ho (fun t1 t2=>H _ (.inl ⟨⟨t1,t2⟩,rfl⟩)) (fun t=>H _ (.inr ⟨t,rfl⟩))
theorem ref_args {F:W Told} (hl:m.V.length<=281474976710656) (hb:b.length<=281474976710656) {G:Nat->Nat->Told->Prop} (H:∀ o,argsR m b G o->Q o)
  (h0:∀ r c:Nat,matOk m->(∀ k,k<r->valid (gd b k))->m.R=r->m.C=c->b.length=r->r<=12->c<=12->(∀ o,G r c o->Q o)->F.run Q) :
  (W.bind (ref27_args.f m b) (fun g=>if g≠0 then (W.ret ([],(⟨0,0⟩:api_Rat),g)) else (if (b.length:Int)≠m.R then (W.ret ([],(⟨0,0⟩:api_Rat),8)) else F))).run Q:=by
 refine W.bd (ref27_args_run hl hb (fun ok vb=>?_) (fun c=>?_))
 ·rw [if_neg (by decide)]
  refine W.run_if (fun c=>H _ (.inr (.inl ⟨⟨ok,vb⟩,c,rfl⟩))) (fun c=>?_)
  have o1:=ok.1
  have o2:=ok.2.1
  obtain ⟨r,hR⟩:=Int.eq_ofNat_of_zero_le o1.1
  obtain ⟨c',hC⟩:=Int.eq_ofNat_of_zero_le o2.1
  have hbl:b.length=r:=by omega
  exact h0 r c' ok (fun k hk=>(all_valid_iff b).1 vb k (by omega)) hR hC hbl (by omega) (by omega) fun o ho=>H o (.inr (.inr ⟨r,c',⟨ok,vb⟩,hR,hC,hbl,ho⟩))
 ·rw [if_pos (by decide)]
  exact H _ (.inl ⟨c,rfl⟩)
theorem ref27_Least_rel (hl:m.V.length<=281474976710656) (hb:b.length<=281474976710656) (H:∀ o,argsR m b (LeastG m b) o->Q o):(ref27_Least.f m b).run Q:=by
 unfold ref27_Least.f
 refine ref_args hl hb H fun r c ok vb hR hC hbl hr hc K=>?_
 have z:=g_small (n:=r) hr (Nat.le_refl r) (ok.at hR hC).2 vb
 refine W.bd (ref01_List_run hbl (by omega) (fun k hk=>⟨vb k hk,rfl⟩) fun B hB=>W.bd (ref27_sums_run ok hR hC hB (fun j hj=>(vb j hj).sz) fun N V q hN hV hq=>W.bd (ref27_alone_run hN hV (by omega) (by have:=szR_12 (Nat.le_refl 973) hc;omega) z.a z.v (fun out x k1 k2 k3=>?_) (fun out k=>?_))))
 ·rw [if_pos rfl]
  have k3':∀ i,i<c->Sz 16400000000 (x i):=fun i hi=>(k3 i hi).mono (szR_12 (Nat.le_refl 973) hc)
  exact W.bd (ref27_errorOf_run ok hR hC hB k1 (fun j hj=>(vb j hj).sz) k3' fun o ho=>W.bd (ref27_told_rel k1 hc ho fun t ht=>K t (.inl ⟨x,k2,ht⟩)))
 ·rw [if_neg (by simp)]
  exact K _ (.inr ⟨k,rfl⟩)
end
def SenseG (m:api_Mat) (r c k:Nat) (o:List api_Rat×Int):Prop:=(∃ x,Sol c (gA m.V c r) (mxv m.V c k) x/\(allTold c x/\o=(tolds c x,0)\/¬ allTold c x/\o=([],3)))\/(∀ x,¬ Sol c (gA m.V c r) (mxv m.V c k) x)/\o=([],4)
def senseR (m:api_Mat) (b:List api_Rat) (h:Int) (o:List api_Rat×Int):Prop:=
 ¬ okA m b/\o=([],1)\/okA m b/\(b.length:Int)≠m.R/\o=([],8)\/okA m b/\(b.length:Int)=m.R/\¬ (0<=h/\h<b.length)/\o=([],1)\/∃ r c k:Nat,okA m b/\m.R=r/\m.C=c/\b.length=r/\h=k/\k<r/\SenseG m r c k o
theorem SenseG.uniq {m:api_Mat} {r c k:Nat} {o p:List api_Rat×Int} (h:SenseG m r c k o) (g:SenseG m r c k p):o=p:=by
 rcases h with ⟨x,h1,h2⟩ | ⟨h1,rfl⟩
 ·rcases g with ⟨y,k1,k2⟩ | ⟨k1,_⟩
  ·have e:=h1.uniq k1
   have e2:allTold c x ↔ allTold c y:=⟨fun k i hi=>by rw [<- e i hi];exact k i hi,fun k i hi=>by rw [e i hi];exact k i hi⟩
   rw [e2,tolds_congr e] at h2
   rcases h2 with ⟨a1,rfl⟩ | ⟨a1,rfl⟩
   ·rcases k2 with ⟨b1,rfl⟩ | ⟨b1,rfl⟩
    ·rfl
    ·exact absurd a1 b1
   ·rcases k2 with ⟨b1,rfl⟩ | ⟨b1,rfl⟩
    ·exact absurd b1 a1
    ·rfl
  ·exact absurd h1 (k1 x)
 ·rcases g with ⟨y,k1,k2⟩ | ⟨k1,rfl⟩
  ·exact absurd k1 (h1 y)
  ·rfl
theorem senseR.uniq {m:api_Mat} {b:List api_Rat} {h:Int} {o p:List api_Rat×Int} (hx:senseR m b h o) (hy:senseR m b h p):o=p:=by
 rcases hx with ⟨a1,rfl⟩ | ⟨a1,a2,rfl⟩ | ⟨a1,a2,a3,rfl⟩ | ⟨r,c,k,a1,a2,a3,a4,a5,a6,a7⟩
 ·rcases hy with ⟨b1,rfl⟩ | ⟨b1,b2,rfl⟩ | ⟨b1,b2,b3,rfl⟩ | ⟨r',c',k',b1,b2,b3,b4,b5,b6,b7⟩ <;> first | rfl | exact absurd b1 a1
 ·rcases hy with ⟨b1,rfl⟩ | ⟨b1,b2,rfl⟩ | ⟨b1,b2,b3,rfl⟩ | ⟨r',c',k',b1,b2,b3,b4,b5,b6,b7⟩ <;> first | rfl | exact absurd a1 b1 | omega
 ·rcases hy with ⟨b1,rfl⟩ | ⟨b1,b2,rfl⟩ | ⟨b1,b2,b3,rfl⟩ | ⟨r',c',k',b1,b2,b3,b4,b5,b6,b7⟩ <;> first | rfl | exact absurd a1 b1 | omega
 ·rcases hy with ⟨b1,rfl⟩ | ⟨b1,b2,rfl⟩ | ⟨b1,b2,b3,rfl⟩ | ⟨r',c',k',b1,b2,b3,b4,b5,b6,b7⟩
  ·exact absurd a1 b1
  ·omega
  ·omega
  ·obtain rfl:r=r':=by omega
   obtain rfl:c=c':=by omega
   obtain rfl:k=k':=by omega
   exact a7.uniq b7
end Go.Proofs.YtlmpoindlejefaaGreat.E
namespace Go.Proofs.YtlmpoindlejefaaGreat.E
open Go Go.RowKit
theorem Sol.congr {n:Nat} {A:Nat->Nat->Rat} {V V' x:Nat->Rat} (h:∀ i,i<n->V i=V' i) (k:Sol n A V x):Sol n A V' x:=fun y=>by
 rw [<- k y]
 exact ⟨fun g i hi=>(g i hi).trans (h i hi).symm,fun g i hi=>(g i hi).trans (h i hi)⟩
section
variable {m:api_Mat} {b:List api_Rat} {h:Int} {Q:List api_Rat×Int->Prop}
theorem fit_Sense_rel (hl:m.V.length<=281474976710656) (hb:b.length<=281474976710656) (H:∀ o,senseR m b h o->Q o):(fit_Sense.f m b h).run Q:=by
 unfold fit_Sense.f
 refine W.bd (fit_known_run hl hb (fun ok vb=>?_) (fun c=>?_))
 ·rw [if_neg (by decide)]
  refine W.run_if (fun c=>H _ (.inr (.inl ⟨⟨ok,vb⟩,c,rfl⟩))) (fun c=>W.run_if (fun c2=>H _ (.inr (.inr (.inl ⟨⟨ok,vb⟩,by omega,by omega,rfl⟩)))) (fun c2=>W.run_if (fun c3=>H _ (.inr (.inr (.inl ⟨⟨ok,vb⟩,by omega,by omega,rfl⟩)))) (fun c3=>?_)))
  have o1:=ok.1
  have o2:=ok.2.1
  obtain ⟨r,hR⟩:=Int.eq_ofNat_of_zero_le o1.1
  obtain ⟨c',hC⟩:=Int.eq_ofNat_of_zero_le o2.1
  obtain ⟨k,rfl⟩:=Int.eq_ofNat_of_zero_le (show 0<=h by omega)
  have hbl:b.length=r:=by omega
  have hkr:k<r:=by omega
  have hc:c'<=12:=by omega
  have vb':∀ k,k<r->valid (gd b k):=fun k hk=>(all_valid_iff b).1 vb k (by omega)
  have hv:=(ok.at hR hC).2
  have K:∀ o,SenseG m r c' k o->Q o:=fun o ho=>H o (.inr (.inr (.inr ⟨r,c',k,⟨ok,vb⟩,hR,hC,hbl,rfl,hkr,ho⟩)))
  have z:=g_small (n:=r) (show r<=12 by omega) (Nat.le_refl r) hv vb'
  refine W.bd (fit_made_rows_run ok hR hC hbl vb' fun P hP hrw=>?_)
  have hrl:=hrw.1
  rw [gi_gd]
  refine W.req_i (by omega) (W.bd (fit_solve_run hP.hm (hrw.2 k hkr) (by omega) (by have:=szR_12 (Nat.le_refl 973) hc;omega) z.a (fun i hi=>(hv k i hkr hi).sz.mono (by omega)) (fun out x k1 k2 k3=>?_) (fun u u1 u2=>?_)))
  ·rw [if_pos rfl]
   refine W.bd (num_Outs_run k1 (by omega) (fun t=>?_) (fun t=>?_))
   ·rw [if_pos rfl];exact K _ (.inl ⟨x,k2,.inl ⟨t,rfl⟩⟩)
   ·rw [if_neg (by simp)];exact K _ (.inl ⟨x,k2,.inr ⟨t,rfl⟩⟩)
  ·rw [if_neg (by simp)]
   refine K _ (.inr ⟨fun x hx=>?_,rfl⟩)
   obtain ⟨g,hg,hu⟩:=u1
   have s1:=(hx x).2 fun i _=>rfl
   have s2:=(hx (fun i=>x i+u i)).1 fun i hi=>by
    have a:=s1 i hi
    have b:=u2 i hi
    unfold dz at a b |-
    rw [sm_congr (g:=fun j=>gA m.V c' r i j*x j+gA m.V c' r i j*u j) fun j _=>by grind,sm_add,a,b,Rat.add_zero]
   have:=s2 g hg
   exact absurd (show u g=0 by grind) hu
 ·rw [if_pos (by decide)]
  exact H _ (.inl ⟨c,rfl⟩)
theorem ref27_Sense_rel (hl:m.V.length<=281474976710656) (hb:b.length<=281474976710656) (H:∀ o,senseR m b h o->Q o):(ref27_Sense.f m b h).run Q:=by
 unfold ref27_Sense.f
 refine W.bd (ref27_args_run hl hb (fun ok vb=>?_) (fun c=>?_))
 ·rw [if_neg (by decide)]
  refine W.run_if (fun c=>H _ (.inr (.inl ⟨⟨ok,vb⟩,c,rfl⟩))) (fun c=>W.run_if (fun c2=>H _ (.inr (.inr (.inl ⟨⟨ok,vb⟩,by omega,by omega,rfl⟩)))) (fun c2=>W.run_if (fun c3=>H _ (.inr (.inr (.inl ⟨⟨ok,vb⟩,by omega,by omega,rfl⟩)))) (fun c3=>?_)))
  have o1:=ok.1
  have o2:=ok.2.1
  obtain ⟨r,hR⟩:=Int.eq_ofNat_of_zero_le o1.1
  obtain ⟨c',hC⟩:=Int.eq_ofNat_of_zero_le o2.1
  obtain ⟨k,rfl⟩:=Int.eq_ofNat_of_zero_le (show 0<=h by omega)
  have hbl:b.length=r:=by omega
  have hkr:k<r:=by omega
  have hc:c'<=12:=by omega
  have vb':∀ k,k<r->valid (gd b k):=fun k hk=>(all_valid_iff b).1 vb k (by omega)
  have hv:=(ok.at hR hC).2
  have K:∀ o,SenseG m r c' k o->Q o:=fun o ho=>H o (.inr (.inr (.inr ⟨r,c',k,⟨ok,vb⟩,hR,hC,hbl,rfl,hkr,ho⟩)))
  have z:=g_small (n:=r) (show r<=12 by omega) (Nat.le_refl r) hv vb'
  rw [hbl]
  refine W.req_i (by omega) (W.bd (ref01_Int_run (by show _/\_;omega) fun one h1=>W.req_i (by simp;omega) ?_))
  have hB:RL ((List.replicate (r:Int).toNat (⟨⟨[],false⟩,⟨[],false⟩⟩:ref01_Q)).set (k:Int).toNat one) r (fun j=>if j=k then ((1:Int):Rat) else 0):=by
   rw [Int.toNat_natCast,Int.toNat_natCast]
   exact (RL.zero r).set h1
  have hV:∀ i,i<c'->gVf m.V c' r (fun j=>if j=k then ((1:Int):Rat) else 0) i=mxv m.V c' k i:=fun i hi=>by
   unfold gVf
   rw [sm_one hkr fun j hj hne=>by dsimp only;rw [if_neg hne,Rat.mul_zero]]
   dsimp only
   rw [if_pos rfl]
   exact Rat.mul_one _
  refine W.bd (ref27_sums_run ok hR hC hB (fun j hj=>by
   split
   ·exact Sz.one.mono (by omega)
   ·exact ⟨by decide,by decide⟩) fun N V q hN hVV hq=>W.bd (ref27_alone_run hN hVV (by omega) (by have:=szR_12 (Nat.le_refl 973) hc;omega) z.a (fun i hi=>by rw [hV i hi];exact (hv k i hkr hi).sz.mono (by omega)) (fun out x k1 k2 k3=>?_) (fun out k2=>?_)))
  ·rw [if_pos rfl]
   refine W.bd (ref01_Rats_run k1 (by omega) (fun t=>?_) (fun t=>?_))
   ·rw [if_pos rfl];exact K _ (.inl ⟨x,k2.congr hV,.inl ⟨t,rfl⟩⟩)
   ·rw [if_neg (by simp)];exact K _ (.inl ⟨x,k2.congr hV,.inr ⟨t,rfl⟩⟩)
  ·rw [if_neg (by simp)]
   exact K _ (.inr ⟨fun x hx=>k2 x (hx.congr fun i hi=>(hV i hi).symm),rfl⟩)
 ·rw [if_pos (by decide)]
  exact H _ (.inl ⟨c,rfl⟩)
end
end Go.Proofs.YtlmpoindlejefaaGreat.E
