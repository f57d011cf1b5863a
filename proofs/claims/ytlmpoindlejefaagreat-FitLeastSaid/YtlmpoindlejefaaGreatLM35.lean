/- Joined. -/
import Derived.Test.YtlmpoindlejefaaGreatLM28S
import Derived.Test.YtlmpoindlejefaaGreatLM33
set_option linter.unusedVariables false
set_option linter.unusedSimpArgs false
namespace Go.Proofs.YtlmpoindlejefaaGreat.E
open Go Go.RowKit
theorem err_eq (v:List api_Rat) (r c:Nat) (B x:Nat->Rat):sm r (fun j=>(sm c (fun k=>mxv v c j k*x k) - B j)*(sm c (fun k=>mxv v c j k*x k) - B j))=errQ c (gA v c r) (gVf v c r B) (sm r (fun j=>B j*B j)) x:=by
 generalize hs:(fun j=>sm c (fun k=>mxv v c j k*x k))=s
 have hs':∀ j,sm c (fun k=>mxv v c j k*x k)=s j:=fun j=>by rw [<- hs]
 have e1:sm c (fun i=>gVf v c r B i*x i)=sm r (fun j=>B j*s j):=by
  unfold gVf
  rw [sm_congr (g:=fun i=>sm r (fun j=>mxv v c j i*B j*x i)) fun i _=>(sm_mulr r (x i) _).symm,<- sm_exch]
  exact sm_congr fun j _=>by rw [<- hs' j,<- sm_mul];exact sm_congr fun k _=>by grind
 have e2:sm c (fun i=>x i*sm c (fun k=>gA v c r i k*x k))=sm r (fun j=>s j*s j):=by
  have h1:∀ i,sm c (fun k=>gA v c r i k*x k)=sm r (fun j=>mxv v c j i*s j):=fun i=>by
   unfold gA
   rw [sm_congr (g:=fun k=>sm r (fun j=>mxv v c j i*mxv v c j k*x k)) fun k _=>(sm_mulr r (x k) _).symm,<- sm_exch]
   exact sm_congr fun j _=>by rw [<- hs' j,<- sm_mul];exact sm_congr fun k _=>by grind
  rw [sm_congr (g:=fun i=>sm r (fun j=>mxv v c j i*s j*x i)) fun i _=>by rw [h1 i,sm_mulr,Rat.mul_comm],<- sm_exch]
  refine sm_congr fun j _=>?_
  rw [<- sm_mulr (c:=s j) (f:=fun k=>mxv v c j k*x k) |> fun h=>(by rw [h,hs' j]:sm c (fun k=>mxv v c j k*x k*s j)=s j*s j)]
  exact sm_congr fun k _=>by grind
 unfold errQ
 rw [e1,e2,sm_congr (g:=fun j=>(B j*B j - B j*s j*2)+s j*s j) fun j _=>by rw [hs' j];grind,sm_add,sm_sub,sm_mulr]
theorem ref27_errorOf_run {m:api_Mat} {b x:List ref01_Q} {r c:Nat} {B f:Nat->Rat} {Q:ref01_Q->Prop} (ok:matOk m) (hR:m.R=r) (hC:m.C=c) (hb:RL b r B) (hx:RL x c f) (sB:∀ j,j<r->Sz 40 (B j)) (sf:∀ i,i<c->Sz 16400000000 (f i))
  (H:∀ z,RRep z (errQ c (gA m.V c r) (gVf m.V c r B) (sm r (fun j=>B j*B j)) f)->Q z):(ref27_errorOf.f m b x).run Q:=by
 obtain ⟨hl,hv⟩:=ok.at hR hC
 have hr12:r<=12:=by have:=ok.1;omega
 have hc12:c<=12:=by have:=ok.2.1;omega
 have hbl:=hb.1
 have sx:∀ j i,j<r->i<c->Sz 40 (mxv m.V c j i):=fun j i hj hi=>(hv j i hj hi).sz
 unfold ref27_errorOf.f
 refine W.bd (ref04_Rows_run hR hC hr12 hc12 hl hv fun R hRM=>?_)
 have hRl:=hRM.1
 have sd:∀ j,j<r->Sz 196800000600 (sm c (fun k=>mxv m.V c j k*f k) - B j):=fun j hj=>((Sz.sm fun k hk=>(sx j k hj hk).mul (sf k hk)).sub (sB j hj)).mono (by omega)
 refine W.loop_c (fun s:ref01_Q×Int=>∃ j:Nat,s.2=j/\j<=r/\RRep s.1 (sm j (fun j=>(sm c (fun k=>mxv m.V c j k*f k) - B j)*(sm c (fun k=>mxv m.V c j k*f k) - B j)))) (fun s=>r - s.2.toNat) ⟨0,rfl,Nat.zero_le _,RRep.zero⟩ ?_
 rintro ⟨o,_⟩ P ⟨j,rfl,hj,h1⟩ hgo hbrk hout
 simp only at h1 hgo |-
 unfold ref27_errorOf.l1
 simp only [gi_gd,hRl]
 refine W.run_if (fun c1=>?_) (fun c1=>hbrk _ ?_)
 ·have hjr:j<r:=by omega
  have sp:Sz (j*(196800000600+196800000600+1)+1) (sm j (fun j=>(sm c (fun k=>mxv m.V c j k*f k) - B j)*(sm c (fun k=>mxv m.V c j k*f k) - B j))):=Sz.sm fun i hi=>(sd i (by omega)).mul (sd i (by omega))
  have s1:Sz 196800000550 (sm c (fun k=>mxv m.V c j k*f k)):=(Sz.sm fun k hk=>(sx j k hjr hk).mul (sf k hk)).mono (by omega)
  refine W.req_i (by omega) (W.req_i (by omega) (W.bd (ref27_dot_run (hRM.2 j hjr) hx (by omega) (by omega) (by omega) (fun k hk=>sx j k hjr hk) sf fun y hy=>W.bd (ref01_Sub_run hy (hb.2 j hjr) (s1.ok (by omega)) ((sB j hjr).ok (by omega)) fun d hd=>W.bd (ref01_Mul_run hd hd ((sd j hjr).ok (by omega)) ((sd j hjr).ok (by omega)) fun u hu=>W.bd (ref01_Add_run h1 hu (sp.ok (by omega)) (((sd j hjr).mul (sd j hjr)).ok (by omega)) fun t ht=>hgo _ ⟨j+1,by simp,by omega,ht⟩ (by simp;omega)))))))
 ·obtain rfl:j=r:=by omega
  unfold ref27_errorOf.j1
  refine H _ ?_
  rw [<- err_eq];exact h1
end Go.Proofs.YtlmpoindlejefaaGreat.E
namespace Go.Proofs.YtlmpoindlejefaaGreat.E
open Go Go.RowKit
abbrev Told:=List api_Rat×api_Rat×Int
def okA (m:api_Mat) (b:List api_Rat):Prop:=matOk m/\∀ r ∈ b,valid r
def toldO (n:Nat) (A:Nat->Nat->Rat) (V:Nat->Rat) (q:Rat) (x:Nat->Rat) (o:Told):Prop:=
 (allTold n x/\(toldR (errQ n A V q x)).2=true)/\o=(tolds n x,(toldR (errQ n A V q x)).1,0)\/¬ (allTold n x/\(toldR (errQ n A V q x)).2=true)/\o=([],⟨0,0⟩,3)
theorem toldO.uniq {n:Nat} {A:Nat->Nat->Rat} {V:Nat->Rat} {q:Rat} {x y:Nat->Rat} {o p:Told} (hx:toldO n A V q x o) (hy:toldO n A V q y p) (h:∀ i,i<n->x i=y i):o=p:=by
 have e1:=errQ_congr (A:=A) (V:=V) (q:=q) h
 have e2:allTold n x ↔ allTold n y:=⟨fun k i hi=>by rw [<- h i hi];exact k i hi,fun k i hi=>by rw [h i hi];exact k i hi⟩
 have e3:=tolds_congr h
 unfold toldO at hx hy
 rw [e1,e3] at hx
 rw [e2] at hx
 rcases hx with ⟨c1,rfl⟩ | ⟨c1,rfl⟩
 ·rcases hy with ⟨c2,rfl⟩ | ⟨c2,rfl⟩
  ·rfl
  ·exact absurd c1 c2
 ·rcases hy with ⟨c2,rfl⟩ | ⟨c2,rfl⟩
  ·exact absurd c2 c1
  ·rfl
def argsR (m:api_Mat) (b:List api_Rat) (G:Nat->Nat->Told->Prop) (o:Told):Prop:=
 ¬ okA m b/\o=([],⟨0,0⟩,1)\/okA m b/\(b.length:Int)≠m.R/\o=([],⟨0,0⟩,8)\/∃ r c:Nat,okA m b/\m.R=r/\m.C=c/\b.length=r/\G r c o
theorem argsR.uniq {m:api_Mat} {b:List api_Rat} {G:Nat->Nat->Told->Prop} {o p:Told} (hG:∀ r c o p,G r c o->G r c p->o=p) (h:argsR m b G o) (k:argsR m b G p):o=p:=by
 rcases h with ⟨a1,rfl⟩ | ⟨a1,a2,rfl⟩ | ⟨r,c,a1,a2,a3,a4,a5⟩
 ·rcases k with ⟨b1,rfl⟩ | ⟨b1,b2,rfl⟩ | ⟨r',c',b1,b2,b3,b4,b5⟩
  ·rfl
  ·exact absurd b1 a1
  ·exact absurd b1 a1
 ·rcases k with ⟨b1,rfl⟩ | ⟨b1,b2,rfl⟩ | ⟨r',c',b1,b2,b3,b4,b5⟩
  ·exact absurd a1 b1
  ·rfl
  ·omega
 ·rcases k with ⟨b1,rfl⟩ | ⟨b1,b2,rfl⟩ | ⟨r',c',b1,b2,b3,b4,b5⟩
  ·exact absurd a1 b1
  ·omega
  ·obtain rfl:r=r':=by omega
   obtain rfl:c=c':=by omega
   exact hG _ _ _ _ a5 b5
def LeastG (m:api_Mat) (b:List api_Rat) (r c:Nat) (o:Told):Prop:=(∃ x,Sol c (gA m.V c r) (gV m.V b c r) x/\toldO c (gA m.V c r) (gV m.V b c r) (gq b r) x o)\/(∀ x,¬ Sol c (gA m.V c r) (gV m.V b c r) x)/\o=([],⟨0,0⟩,4)
def NearG (m:api_Mat) (b:List api_Rat) (r c:Nat) (o:Told):Prop:=∃ x,NV c (gA m.V c r) (gV m.V b c r) x/\toldO c (gA m.V c r) (gV m.V b c r) (gq b r) x o
theorem Sol.uniq {n:Nat} {A:Nat->Nat->Rat} {V x y:Nat->Rat} (h:Sol n A V x) (k:Sol n A V y):∀ i,i<n->x i=y i:=fun i hi=>(h y |>.1 ((k y).2 fun _ _=>rfl) i hi).symm
theorem LeastG.uniq {m:api_Mat} {b:List api_Rat} (r c:Nat) (o p:Told) (h:LeastG m b r c o) (k:LeastG m b r c p):o=p:=by
 rcases h with ⟨x,h1,h2⟩ | ⟨h1,rfl⟩
 ·rcases k with ⟨y,k1,k2⟩ | ⟨k1,_⟩
  ·exact h2.uniq k2 (h1.uniq k1)
  ·exact absurd h1 (k1 x)
 ·rcases k with ⟨y,k1,k2⟩ | ⟨k1,rfl⟩
  ·exact absurd k1 (h1 y)
  ·rfl
theorem NearG.uniq {m:api_Mat} {b:List api_Rat} (r c:Nat) (o p:Told) (h:NearG m b r c o) (k:NearG m b r c p):o=p:=by
 obtain ⟨x,h1,h2⟩:=h
 obtain ⟨y,k1,k2⟩:=k
 exact h2.uniq k2 (h1.uniq k1)
theorem gA_symm (v:List api_Rat) (c r:Nat):∀ i k,gA v c r i k=gA v c r k i:=fun i k=>sm_congr fun j _=>Rat.mul_comm _ _
section
variable {m:api_Mat} {b:List api_Rat} {Q:Told->Prop}
theorem fit_told_rel {l:List num_Q} {o:num_Q} {n:Nat} {A:Nat->Nat->Rat} {V:Nat->Rat} {q:Rat} {x:Nat->Rat} (hl:QL l n x) (hn:n<=12) (ho:QRep o (errQ n A V q x)) (H:∀ t,toldO n A V q x t->Q t):(fit_told.f l o).run fun a=>Q (a.1,a.2.1,a.2.2):=
 fit_told_run hl (by omega) ho (fun t1 t2=>H _ (.inl ⟨⟨t1,t2⟩,rfl⟩)) (fun t=>H _ (.inr ⟨t,rfl⟩))
theorem fit_args {F:W Told} (hl:m.V.length<=281474976710656) (hb:b.length<=281474976710656) {G:Nat->Nat->Told->Prop} (H:∀ o,argsR m b G o->Q o)
  (h0:∀ r c:Nat,matOk m->(∀ k,k<r->valid (gd b k))->m.R=r->m.C=c->b.length=r->r<=12->c<=12->(∀ o,G r c o->Q o)->F.run Q) :
  (W.bind (fit_known.f m b) (fun g=>if g≠0 then (W.ret ([],(⟨0,0⟩:api_Rat),g)) else (if (b.length:Int)≠m.R then (W.ret ([],(⟨0,0⟩:api_Rat),8)) else F))).run Q:=by
 refine W.bd (fit_known_run hl hb (fun ok vb=>?_) (fun c=>?_))
 ·rw [if_neg (by decide)]
  refine W.run_if (fun c=>H _ (.inr (.inl ⟨⟨ok,vb⟩,c,rfl⟩))) (fun c=>?_)
  have o1:=ok.1
  have o2:=ok.2.1
  obtain ⟨r,hR⟩:=Int.eq_ofNat_of_zero_le o1.1
  obtain ⟨c',hC⟩:=Int.eq_ofNat_of_zero_le o2.1
  have hbl:b.length=r:=by omega
  exact h0 r c' ok (fun k hk=>(all_valid_iff b).1 vb k (by omega)) hR hC hbl (by omega) (by omega) fun o ho=>H o (.inr (.inr ⟨r,c',⟨ok,vb⟩,hR,hC,hbl,ho⟩))
 ·rw [if_pos (by decide)]
  exact H _ (.inl ⟨c,rfl⟩)
theorem fit_Least_rel (hl:m.V.length<=281474976710656) (hb:b.length<=281474976710656) (H:∀ o,argsR m b (LeastG m b) o->Q o):(fit_Least.f m b).run Q:=by
 unfold fit_Least.f
 refine fit_args hl hb H fun r c ok vb hR hC hbl hr hc K=>?_
 have z:=g_small (n:=r) hr (Nat.le_refl r) (ok.at hR hC).2 vb
 refine W.bd (fit_made_run ok hR hC hbl vb fun P hP=>W.bd (fit_solve_run hP.hm hP.hv (by omega) (by have:=szR_12 (Nat.le_refl 973) hc;omega) z.a z.v (fun out x k1 k2 k3=>?_) (fun u u1 u2=>?_)))
 ·rw [if_pos rfl]
  have k3':∀ i,i<c->Sz 16400000000 (x i):=fun i hi=>(k3 i hi).mono (szR_12 (Nat.le_refl 973) hc)
  exact W.bd (fit_err_run (S:=⟨P.sums.n,P.sums.m,P.sums.v,P.sums.q⟩) ⟨hP.hn,hP.hm,hP.hv,hP.hq⟩ hc k1 z k3' fun o ho=>W.bd (fit_told_rel k1 hc ho fun t ht=>K t (.inl ⟨x,k2,ht⟩)))
 ·rw [if_neg (by simp)]
  refine K _ (.inr ⟨fun x hx=>?_,rfl⟩)
  obtain ⟨g,hg,hu⟩:=u1
  have s1:=(hx x).2 fun i _=>rfl
  have s2:=(hx (fun i=>x i+u i)).1 fun i hi=>by
   have a:=s1 i hi
   have b:=u2 i hi
   unfold dz at a b |-
   rw [sm_congr (g:=fun j=>gA m.V c r i j*x j+gA m.V c r i j*u j) fun j _=>by grind,sm_add,a,b,Rat.add_zero]
  have:=s2 g hg
  exact absurd (show u g=0 by grind) hu
theorem fit_Nearest_rel (hl:m.V.length<=281474976710656) (hb:b.length<=281474976710656) (H:∀ o,argsR m b (NearG m b) o->Q o):(fit_Nearest.f m b).run Q:=by
 unfold fit_Nearest.f
 refine fit_args hl hb H fun r c ok vb hR hC hbl hr hc K=>?_
 have hv:=(ok.at hR hC).2
 have z:=g_small (n:=r) hr (Nat.le_refl r) hv vb
 refine W.bd (fit_made_run ok hR hC hbl vb fun P hP=>W.req_i (by rw [hP.hn];omega) (fit_Nearest_rows hP hc z fun rows hrows=>?_))
 obtain ⟨d,d0,d1,d2,d3⟩:=sums_cd hr hc hv vb
 exact fit_Nearest_tail hP hc z ⟨d,d0,d1,d2⟩ (gA_symm _ _ _) (square_cdM hr hc hv vb) (square_sol r c (mxv m.V c) (fun j=>ratOf (gd b j))) hrows fun x l o h1 h2 h3 h4=>fit_told_rel h3 hc h4 fun t ht=>K t ⟨x,h1,ht⟩
end
end Go.Proofs.YtlmpoindlejefaaGreat.E
