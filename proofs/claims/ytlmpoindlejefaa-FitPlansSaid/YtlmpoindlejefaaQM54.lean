/- Joined. -/
import Derived.Test.YtlmpoindlejefaaQM53
import Derived.Test.YtlmpoindlejefaaQM27
set_option linter.unusedVariables false
set_option linter.unusedSimpArgs false
namespace Go.Proofs.Ytlmpoindlejefaa.E
open Go Go.RowKit
theorem Sol.uniqP {n:Nat} {A:Nat->Nat->Rat} {V x y:Nat->Rat} (h:Sol n A V x) (k:Sol n A V y):∀ i,i<n->x i=y i:=fun i hi=>(h y |>.1 ((k y).2 fun _ _=>rfl) i hi).symm
theorem zHt {n u:Nat} {x y:Nat->Rat} (h:∀ i,i<n*u->x i=y i):rowsP n u x=rowsP n u y:=by
 unfold rowsP
 refine List.map_congr_left fun t ht=>zHs fun j hj=>h _ ?_
 have:=Nat.mul_le_mul_right u (show t+1<=n from List.mem_range.1 ht)
 rw [Nat.add_mul] at this
 omega
theorem zH4 {n:Nat} {A:Nat->Nat->Rat} {V x y:Nat->Rat} {q:Rat} (h:∀ i,i<n->x i=y i):errQ n A V q x=errQ n A V q y:=by
 have e1:sm n (fun i=>V i*x i)=sm n (fun i=>V i*y i):=zAm fun i hi=>by rw [h i hi]
 have e2:∀ i,sm n (fun k=>A i k*x k)=sm n (fun k=>A i k*y k):=fun i=>zAm fun k hk=>by rw [h k hk]
 have e3:sm n (fun i=>x i*sm n (fun k=>A i k*x k))=sm n (fun i=>y i*sm n (fun k=>A i k*y k)):=zAm fun i hi=>by rw [h i hi,e2]
 unfold errQ
 rw [e1,e3]
section
variable {a b:zAS} {x goal:List zn} {w:zn} {k u n:Nat} {m:Int} {o p:ToldP} {Q:ToldP->Prop}
theorem PlanG.uniq (h:PlanG a b x goal w k u n o) (g:PlanG a b x goal w k u n p):o=p:=by
 obtain ⟨z,h1,h2⟩:=h
 obtain ⟨y,k1,k2⟩:=g
 have q:=h1.uniqP k1
 have e1:=zH4 (A:=plMM a b w k u n) (V:=plVV a b x goal k u n) (q:=plqq a b x goal k u n) q
 have e2:allTold (n*u) z ↔ allTold (n*u) y:=⟨fun k i hi=>by rw [<- q i hi];exact k i hi,fun k i hi=>by rw [q i hi];exact k i hi⟩
 rw [e1,e2,zHt q] at h2
 rcases h2 with ⟨a1,rfl⟩ | ⟨a1,rfl⟩
 ·rcases k2 with ⟨b1,rfl⟩ | ⟨b1,rfl⟩
  ·rfl
  ·exact absurd a1 b1
 ·rcases k2 with ⟨b1,rfl⟩ | ⟨b1,rfl⟩
  ·exact absurd b1 a1
  ·rfl
def plA (a b:zAS) (x goal:List zn) (w:zn):Prop:=matOk a/\matOk b/\(∀ r ∈ x,valid r)/\(∀ r ∈ goal,valid r)/\valid w
def plB (a b:zAS) (x goal:List zn):Prop:=a.C=a.R/\b.R=a.R/\(x.length:Int)=a.R/\(goal.length:Int)=a.R
def plC (w:zn) (m:Int):Prop:=1<=m/\m<=6/\0<w.N
def planR (a b:zAS) (x goal:List zn) (m:Int) (w:zn) (o:ToldP):Prop:=
 ¬ plA a b x goal w/\o=([],⟨0,0⟩,1)\/(plA a b x goal w/\¬ plB a b x goal)/\o=([],⟨0,0⟩,8)\/(plA a b x goal w/\plB a b x goal/\¬ plC w m)/\o=([],⟨0,0⟩,1)\/(plA a b x goal w/\plB a b x goal/\plC w m/\12<m*b.C)/\o=([],⟨0,0⟩,3)\/∃ k u n:Nat,m=n/\PlOk a b x goal w k u n/\PlanG a b x goal w k u n o
theorem PlOk.abc (h:PlOk a b x goal w k u n):plA a b x goal w/\plB a b x goal/\plC w n/\¬ 12<(n:Int)*b.C:=by
 have h1:=h.aR
 have h2:=h.aC
 have h3:=h.bR
 have h4:=h.xl
 have h5:=h.gl
 have h6:=h.n1
 have h7:=h.n6
 have h8:=h.nu
 have e:(n:Int)*b.C=((n*u:Nat):Int):=by rw [h.bC];simp
 exact ⟨⟨h.oa,h.ob,h.vx,h.vg,h.vw⟩,⟨by omega,by omega,by omega,by omega⟩,⟨by omega,by omega,h.wp⟩,by rw [e];omega⟩
theorem planR.uniq (hx:planR a b x goal m w o) (hy:planR a b x goal m w p):o=p:=by
 have g:∀ {k u n:Nat},m=n->PlOk a b x goal w k u n->plA a b x goal w/\plB a b x goal/\plC w m/\¬ 12<m*b.C:=fun e h=>by subst e;exact h.abc
 rcases hx with ⟨a1,rfl⟩ | ⟨a1,rfl⟩ | ⟨a1,rfl⟩ | ⟨a1,rfl⟩ | ⟨k,u,n,a1,a2,a3⟩
 ·rcases hy with ⟨b1,rfl⟩ | ⟨b1,rfl⟩ | ⟨b1,rfl⟩ | ⟨b1,rfl⟩ | ⟨k',u',n',b1,b2,b3⟩
  ·rfl
  ·exact absurd b1.1 a1
  ·rfl
  ·exact absurd b1.1 a1
  ·exact absurd (g b1 b2).1 a1
 ·rcases hy with ⟨b1,rfl⟩ | ⟨b1,rfl⟩ | ⟨b1,rfl⟩ | ⟨b1,rfl⟩ | ⟨k',u',n',b1,b2,b3⟩
  ·exact absurd a1.1 b1
  ·rfl
  ·exact absurd b1.2.1 a1.2
  ·exact absurd b1.2.1 a1.2
  ·exact absurd (g b1 b2).2.1 a1.2
 ·rcases hy with ⟨b1,rfl⟩ | ⟨b1,rfl⟩ | ⟨b1,rfl⟩ | ⟨b1,rfl⟩ | ⟨k',u',n',b1,b2,b3⟩
  ·rfl
  ·exact absurd a1.2.1 b1.2
  ·rfl
  ·exact absurd b1.2.2.1 a1.2.2
  ·exact absurd (g b1 b2).2.2.1 a1.2.2
 ·rcases hy with ⟨b1,rfl⟩ | ⟨b1,rfl⟩ | ⟨b1,rfl⟩ | ⟨b1,rfl⟩ | ⟨k',u',n',b1,b2,b3⟩
  ·exact absurd a1.1 b1
  ·exact absurd a1.2.1 b1.2
  ·exact absurd a1.2.2.1 b1.2.2
  ·rfl
  ·exact absurd a1.2.2.2 (g b1 b2).2.2.2
 ·have h:=g a1 a2
  rcases hy with ⟨b1,rfl⟩ | ⟨b1,rfl⟩ | ⟨b1,rfl⟩ | ⟨b1,rfl⟩ | ⟨k',u',n',b1,b2,b3⟩
  ·exact absurd h.1 b1
  ·exact absurd h.2.1 b1.2
  ·exact absurd h.2.2.1 b1.2.2
  ·exact absurd b1.2.2.2 h.2.2.2
  ·obtain rfl:n=n':=by omega
   obtain rfl:k=k':=by have:=a2.aR;have:=b2.aR;omega
   obtain rfl:u=u':=by have:=a2.bC;have:=b2.bC;omega
   exact a3.uniq b3
theorem planR.sol (hy:planR a b x goal (n:Int) w o) (ok:PlOk a b x goal w k u n):∃ z,Sol (n*u) (plMM a b w k u n) (plVV a b x goal k u n) z:=by
 have h:=ok.abc
 rcases hy with ⟨b1,rfl⟩ | ⟨b1,rfl⟩ | ⟨b1,rfl⟩ | ⟨b1,rfl⟩ | ⟨k',u',n',b1,b2,b3⟩
 ·exact absurd h.1 b1
 ·exact absurd h.2.1 b1.2
 ·exact absurd h.2.2.1 b1.2.2
 ·exact absurd b1.2.2.2 h.2.2.2
 ·obtain rfl:n=n':=by omega
  obtain rfl:k=k':=by have:=ok.aR;have:=b2.aR;omega
  obtain rfl:u=u':=by have:=ok.bC;have:=b2.bC;omega
  obtain ⟨z,hz,_⟩:=b3
  exact ⟨z,hz⟩
theorem zIc (hA:plA a b x goal w) (hB:plB a b x goal) (hC:plC w m) (h12: ¬ m*b.C>12):∃ k u n:Nat,m=n/\a.R=k/\b.C=u/\PlOk a b x goal w k u n:=by
 obtain ⟨oa,ob,vx,vg,vw⟩:=hA
 obtain ⟨c1,c2,c3,c4⟩:=hB
 obtain ⟨d1,d2,d3⟩:=hC
 have o1:=oa.1
 have o2:=ob.2.1
 obtain ⟨k,hk⟩:=Int.eq_ofNat_of_zero_le o1.1
 obtain ⟨u,hu⟩:=Int.eq_ofNat_of_zero_le o2.1
 obtain ⟨n,hn⟩:=Int.eq_ofNat_of_zero_le (show 0<=m by omega)
 have e:m*b.C=((n*u:Nat):Int):=by rw [hu,hn];simp
 rw [e] at h12
 exact ⟨k,u,n,hn,hk,hu,oa,ob,hk,by omega,by omega,hu,by omega,by omega,vx,vg,vw,by omega,by omega,d3,by omega⟩
theorem zHm (ha:a.V.length<=281474976710656) (hb:b.V.length<=281474976710656) (hx:x.length<=281474976710656) (hg:goal.length<=281474976710656) (hm:I64 m) (H:∀ o,planR a b x goal m w o->Q o):(zAI.f a b x goal m w).run Q:=by
 have K1: ¬ plA a b x goal w->Q ([],⟨0,0⟩,1):=fun h=>H _ (.inl ⟨h,rfl⟩)
 unfold zAI.f
 refine W.loop_c (fun s:zn×Int=>∃ i:Nat,s.2=i/\i<=2/\(0<i->matOk a)/\(1<i->matOk b)) (fun s=>2 - s.2.toNat) ⟨0,rfl,by omega,fun h=>by omega,fun h=>by omega⟩ ?_
 rintro ⟨r,_⟩ P ⟨i,rfl,hi,h1,h2⟩ hgo hbrk hout
 simp only at hgo |-
 unfold zAI.l12
 refine W.run_if (fun c=>?_) (fun c=>hbrk _ ?_)
 ·have hi2:i<2:=by simp at c;omega
  refine W.req_i ⟨by omega,c⟩ ?_
  have e:i=0\/i=1:=by omega
  rcases e with rfl | rfl
  ·refine W.bd (zER ha (fun ok=>?_) (fun ok=>?_))
   ·rw [if_neg (by decide)]
    exact hgo _ ⟨1,rfl,by omega,fun _=>ok,fun h=>by omega⟩ (by simp)
   ·rw [if_pos (by decide)]
    exact hout _ (K1 fun h=>ok h.1)
  ·refine W.bd (zER hb (fun ok=>?_) (fun ok=>?_))
   ·rw [if_neg (by decide)]
    exact hgo _ ⟨2,rfl,by omega,fun _=>h1 (by omega),fun _=>ok⟩ (by simp)
   ·rw [if_pos (by decide)]
    exact hout _ (K1 fun h=>ok h.2.1)
 have hi2:i=2:=by simp at c;omega
 subst hi2
 have oa:=h1 (by omega)
 have ob:=h2 (by omega)
 unfold zAI.j1
 refine W.bd (zCR hx (W.run_if (fun c1=>?_) (fun c1=>K1 fun h=>c1 (decide_eq_true h.2.2.1))))
 refine W.bd (zCR hg (W.run_if (fun c2=>?_) (fun c2=>K1 fun h=>c2 (decide_eq_true h.2.2.2.1))))
 refine W.bd (zFM (W.run_if (fun c3=>?_) (fun c3=>K1 fun h=>c3 (decide_eq_true h.2.2.2.2))))
 have hA:plA a b x goal w:=⟨oa,ob,of_decide_eq_true c1,of_decide_eq_true c2,of_decide_eq_true c3⟩
 have K8: ¬ plB a b x goal->Q ([],⟨0,0⟩,8):=fun h=>H _ (.inr (.inl ⟨⟨hA,h⟩,rfl⟩))
 unfold zAI.j2
 refine W.run_if (fun c4=>K8 fun h=>c4 h.1) (fun c4=>W.run_if (fun c5=>K8 fun h=>c5 h.2.1) (fun c5=>W.run_if (fun c6=>K8 fun h=>c6 h.2.2.1) (fun c6=>W.run_if (fun c7=>K8 fun h=>c7 h.2.2.2) (fun c7=>?_))))
 have hB:plB a b x goal:=⟨by omega,by omega,by omega,by omega⟩
 have K2: ¬ plC w m->Q ([],⟨0,0⟩,1):=fun h=>H _ (.inr (.inr (.inl ⟨⟨hA,hB,h⟩,rfl⟩)))
 refine W.run_if (fun c8=>K2 fun h=>by have:=h.1;omega) (fun c8=>W.run_if (fun c9=>K2 fun h=>by have:=h.2.1;omega) (fun c9=>W.run_if (fun c0=>K2 fun h=>by have:=h.2.2;omega) (fun c0=>?_)))
 have hC:plC w m:=⟨by omega,by omega,by omega⟩
 have ob1:=ob.2.1
 have hp:=zDn (a:=m) (b:=b.C) (by omega) (by omega)
 refine W.req_i (by show _/\_;omega) (W.run_if (fun d1=>H _ (.inr (.inr (.inr (.inl ⟨⟨hA,hB,hC,d1⟩,rfl⟩))))) (fun d1=>?_))
 obtain ⟨k,u,n,rfl,e1,e2,ok⟩:=zIc hA hB hC d1
 rw [e1,e2]
 obtain ⟨hk,hu⟩:=ok.le
 have e0:(n:Int)*(u:Int)=((n*u:Nat):Int):=by simp
 have hnu:=ok.nu
 refine W.bd (zIW ok.xl (by omega) (fun j hj=>⟨ok.xv j hj,rfl⟩) fun s hs=>W.req_i (by omega) ?_)
 refine W.loop_c (fun s:List (List zAF)×Int=>∃ i:Nat,s.2=i/\i<=k/\s.1.length=k/\∀ p,p<i->QL (gd s.1 p) (n*u) (fun _=>0)) (fun s=>k - s.2.toNat) ⟨0,rfl,Nat.zero_le _,by simp,fun p hp=>by omega⟩ ?_
 rintro ⟨nx,_⟩ P2 ⟨i,rfl,hi,k1,k2⟩ hgo2 hbrk2 hout2
 simp only at k1 k2 hgo2 |-
 unfold zAI.l11
 rw [List.length_replicate,Int.toNat_natCast,e0]
 refine W.run_if (fun c2=>W.req_i (by show _/\_;omega) (W.bd (zCx (n:=n*u) (by omega) fun z hz=>W.req_i (by omega) (hgo2 _ ⟨i+1,by simp,by omega,by simp [k1],fun p hp=>?_⟩ (by simp;omega))))) (fun c2=>hbrk2 _ ?_)
 ·simp only [Int.toNat_natCast]
  rw [zCz]
  by_cases e:i=p
  ·subst e;rw [if_pos ⟨rfl,by omega⟩];exact hz
  ·rw [if_neg (by omega)];exact k2 p (by omega)
 ·obtain rfl:i=k:=by omega
  exact zGr rfl ok hs ⟨k1,k2⟩ fun o ho=>H o (.inr (.inr (.inr (.inr ⟨i,u,n,rfl,ok,ho⟩))))
end
end Go.Proofs.Ytlmpoindlejefaa.E
namespace Go.Proofs.Ytlmpoindlejefaa.E
open Go Go.RowKit
theorem RL.cut {l:List zp} {N u t:Nat} {f:Nat->Rat} (h:RL l N f) (ht:t*u+u<=N):RL ((l.drop (t*u)).take u) u (fun j=>f (t*u+j)):=by
 have hl:=h.1
 refine ⟨by rw [List.length_take,List.length_drop];omega,fun i hi=>?_⟩
 rw [gd_cut _ _ _ _ hi]
 exact h.2 _ (by omega)
section
variable {a b:zAS} {x goal:List zn} {w:zn} {k u n:Nat} {m:Int} {o:ToldP}
theorem zED {Q:List zp->Prop} {X U:List zp} {f wi:Nat->Rat} {S:Nat} (oa:matOk a) (ob:matOk b) (aR:a.R=k) (aC:a.C=k) (bR:b.R=k) (bC:b.C=u) (hS:S<=600000000) (hX:RL X k f) (hU:RL U (n*u) wi) (sz:∀ t,t<=n->∀ i,i<k->Sz S (endV k u (mxv a.V k) (mxv b.V u) f wi t i)) (sw:∀ c,c<n*u->Sz S (wi c)) (hn:n<=6)
  (H:∀ r,RL r k (endV k u (mxv a.V k) (mxv b.V u) f wi n)->Q r):(zAh.f a b X U (n:Int)).run Q:=by
 obtain ⟨hal,hav⟩:=oa.at aR aC
 obtain ⟨hbl,hbv⟩:=ob.at bR bC
 have hk:k<=12:=by have:=oa.1;omega
 have hu:u<=12:=by have:=ob.2.1;omega
 have hUl:=hU.1
 unfold zAh.f
 refine W.bd (zEs aR aC hk hk hal hav fun RA hRA=>W.bd (zEs bR bC hk hu hbl hbv fun RB hRB=>?_))
 have hral:=hRA.1
 have hrbl:=hRB.1
 refine W.loop_c (fun s:List zp×Int=>∃ t:Nat,s.2=t/\t<=n/\RL s.1 k (endV k u (mxv a.V k) (mxv b.V u) f wi t)) (fun s=>n - s.2.toNat) ⟨0,rfl,Nat.zero_le _,hX⟩ ?_
 rintro ⟨xs,_⟩ P ⟨t,rfl,ht,h1⟩ hgo hbrk hout
 simp only at h1 hgo |-
 have hxl:=h1.1
 unfold zAh.l1
 rw [bC]
 refine W.run_if (fun c=>?_) (fun c=>hbrk _ ?_)
 ·have htn:t<n:=by omega
  have hp:=zDn (a:=(t:Int)) (b:=(u:Int)) (by omega) (by omega)
  have hp2:=zDn (a:=(t:Int)+1) (b:=(u:Int)) (by omega) (by omega)
  have htu:t*u+u<=n*u:=by rw [<- Nat.succ_mul];exact Nat.mul_le_mul_right u htn
  refine W.req_i (by show _/\_;omega) (W.req_i (by show _/\_;omega) (W.req_i (zIB hUl htn) (W.req_i (by omega) ?_)))
  refine W.loop_c (fun s:List zp×Int=>∃ i:Nat,s.2=i/\i<=k/\s.1.length=k/\∀ p,p<i->RRep (gd s.1 p) (endV k u (mxv a.V k) (mxv b.V u) f wi (t+1) p)) (fun s=>k - s.2.toNat) ⟨0,rfl,Nat.zero_le _,by simp [hxl],fun p hp=>by omega⟩ ?_
  rintro ⟨nx,_⟩ P2 ⟨i,rfl,hi,k1,k2⟩ hgo2 hbrk2 hout2
  simp only at k1 k2 hgo2 |-
  unfold zAh.l2
  rw [List.length_replicate,Int.toNat_natCast,hxl,bC,zIN]
  simp only [zCE]
  refine W.run_if (fun c2=>?_) (fun c2=>hbrk2 _ ?_)
  ·have hik:i<k:=by omega
   have sA:∀ j,j<k->Sz 40 (mxv a.V k i j):=fun j hj=>(hav i j hik hj).sz
   have sB:∀ j,j<u->Sz 40 (mxv b.V u i j):=fun j hj=>(hbv i j hik hj).sz
   have hm1:=Nat.mul_le_mul hk (show 40+S+1<=600000041 by omega)
   have hm2:=Nat.mul_le_mul hu (show 40+S+1<=600000041 by omega)
   have z1:Sz 7200000493 (sm k (fun j=>mxv a.V k i j*endV k u (mxv a.V k) (mxv b.V u) f wi t j)):=(Sz.sm fun j hj=>(sA j hj).mul (sz t ht j hj)).mono (by omega)
   have z2:Sz 7200000493 (sm u (fun j=>mxv b.V u i j*wi (t*u+j))):=(Sz.sm fun j hj=>(sB j hj).mul (sw _ (by omega))).mono (by omega)
   refine W.req_i (by omega) (W.req_i (by omega) (W.bd (zCq (hRA.2 i hik) h1 (by omega) (by omega) (by omega) sA (sz t ht) fun y hy=>W.bd (zCq (hRB.2 i hik) (hU.cut htu) (by omega) (by omega) (by omega) sB (fun j hj=>sw _ (by omega)) fun v hv=>W.bd (zCg hy hv (z1.ok (by omega)) (z2.ok (by omega)) fun q hq=>W.req_i (by omega) (hgo2 _ ⟨i+1,by simp,by omega,by simp [k1],fun p hp=>?_⟩ (by simp;omega)))))))
   simp only [Int.toNat_natCast]
   rw [zCz]
   by_cases e:i=p
   ·subst e;rw [if_pos ⟨rfl,by omega⟩];exact hq
   ·rw [if_neg (by omega)];exact k2 p (by omega)
  ·obtain rfl:i=k:=by omega
   unfold zAh.j3 zAh.j2
   exact hgo _ ⟨t+1,by simp,by omega,k1,k2⟩ (by simp;omega)
 ·obtain rfl:t=n:=by omega
  unfold zAh.j1
  exact W.req_i (by dsimp only;omega) (H _ h1)
theorem zGj {Q:ToldP->Prop} {z:Nat->Rat} {flat:List zn×zn×Int} (bC:b.C=u) (hn:n<=6) (hu:u<=12) (hf:flat.1=tolds (n*u) z) (H:Q (rowsP n u z,flat.2.1,0)):(W.bind (W.loop (fun (s:List (List zn)×Int)=>zAK.l1 (n:Int) b flat s.1 s.2) ((List.replicate n ([]:List zn)),0)) (Lp.on (fun s=>zAK.j6 flat s.1) (fun r=>W.ret r))).run Q:=by
 refine W.loop_c (fun s:List (List zn)×Int=>∃ t:Nat,s.2=t/\t<=n/\s.1.length=n/\(∀ p,p<t->gd s.1 p=tolds u (fun j=>z (p*u+j)))/\∀ p,t<=p->p<n->gd s.1 p= []) (fun s=>n - s.2.toNat) ⟨0,rfl,Nat.zero_le _,by simp,fun p hp=>by omega,fun p _ hp=>gd_rep hp⟩ ?_
 rintro ⟨out,_⟩ P ⟨t,rfl,ht,h1,h2,h3⟩ hgo hbrk hout
 simp only at h1 h2 h3 hgo |-
 unfold zAK.l1
 rw [List.length_replicate,Int.toNat_natCast,bC,hf]
 refine W.run_if (fun c=>?_) (fun c=>hbrk _ ?_)
 ·have htn:t<n:=by omega
  have hp:=zDn (a:=(t:Int)) (b:=(u:Int)) (by omega) (by omega)
  have hp2:=zDn (a:=(t:Int)+1) (b:=(u:Int)) (by omega) (by omega)
  have hle:t*u+u<=n*u:=by rw [<- Nat.succ_mul];exact Nat.mul_le_mul_right u htn
  rw [zIN,zHS z hle]
  simp only [zCE]
  have h4:=h3 t (Nat.le_refl t) htn
  rw [h4]
  refine W.req_i (by omega) (W.req_i (by show _/\_;omega) (W.req_i (by show _/\_;omega) (W.req_i (zIB (zDC _ _) htn) (W.req_i (by rw [zDC,List.length_nil];omega) (W.req_i (by omega) (hgo _ ⟨t+1,by simp,by omega,by simp [h1],fun p hp=>?_,fun p hp hpn=>?_⟩ (by simp;omega)))))))
  ·simp only [Int.toNat_natCast,List.nil_append]
   rw [zCz]
   by_cases e:t=p
   ·subst e;rw [if_pos ⟨rfl,by omega⟩]
   ·rw [if_neg (by omega)];exact h2 p (by omega)
  ·simp only [Int.toNat_natCast]
   rw [zCz,if_neg (by omega)]
   exact h3 p (by omega) hpn
 ·obtain rfl:t=n:=by omega
  unfold zAK.j6
  have e:out=rowsP t u z:=by
   apply List.ext_getElem
   ·rw [h1,zHT]
   ·intro p q1 q2
    have:=h2 p (by omega)
    rw [zIo q1] at this
    rw [this]
    simp [rowsP]
  rw [e]
  exact H
theorem zGM {Q:ToldP->Prop} {out:List zp×Bool} {z:Nat->Rat} {sum:zp} (ok:PlOk a b x goal w k u n) (hz:RL out.1 (n*u) z) (sol:Sol (n*u) (plMM a b w k u n) (plVV a b x goal k u n) z) (sz:∀ i,i<n*u->Sz 505100000 (z i)) (hs:RRep sum (sm k (fun i=>(sm (n*u) (fun c=>plGG a b k u n i c*z c) - plL a b x goal k u n i)*(sm (n*u) (fun c=>plGG a b k u n i c*z c) - plL a b x goal k u n i)))) (ss:Sz 20000000000 (sm k (fun i=>(sm (n*u) (fun c=>plGG a b k u n i c*z c) - plL a b x goal k u n i)*(sm (n*u) (fun c=>plGG a b k u n i c*z c) - plL a b x goal k u n i))))
  (H:∀ o,PlanG a b x goal w k u n o->Q o):(zAK.j5 w out (n:Int) b sum).run Q:=by
 have hnu:=ok.nu
 have n6:=ok.n6
 have zd:Sz 12122400013 (sm (n*u) (fun c=>z c*z c)):=(Sz.sm fun c hc=>(sz c hc).mul (sz c hc)).mono (by omega)
 have sw:=ok.vw.sz
 obtain ⟨w1,w2,w3⟩:=ok.vw.i64
 unfold zAK.j5
 refine W.bd (zDE w1 w2 w3 fun y hy=>W.bd (zCq hz hz (by omega) (by omega) (by omega) sz sz fun d hd=>W.bd (zCt hy hd (sw.ok (by omega)) (zd.ok (by omega)) fun p hp=>W.bd (zCg hs hp (ss.ok (by omega)) ((sw.mul zd).ok (by omega)) fun e he=>?_))))
 have e1:=pl_err k (n*u) (plGG a b k u n) (plL a b x goal k u n) (ratOf w) z
 have he2:RRep e (errQ (n*u) (plMM a b w k u n) (plVV a b x goal k u n) (plqq a b x goal k u n) z):=by rw [<- e1];exact he
 refine W.bd (zGh hz (by omega) he2 (fun t1 t2=>?_) (fun t=>?_))
 ·rw [if_neg (by simp)]
  rw [Int.toNat_natCast]
  exact W.req_i (by omega) (zGj (flat:=(_,_,_)) ok.bC n6 ok.le.2 rfl (H _ ⟨z,sol,.inl ⟨⟨t1,t2⟩,rfl⟩⟩))
 ·rw [if_pos (by simp)]
  exact H _ ⟨z,sol,.inr ⟨t,rfl⟩⟩
theorem zFw {Q:ToldP->Prop} {rows:List (List zp)} {right:List zp} (ok:PlOk a b x goal w k u n) (hr:RM rows (n*u) (n*u) (plMM a b w k u n)) (hv:RL right (n*u) (plVV a b x goal k u n)) (hex:∃ z,Sol (n*u) (plMM a b w k u n) (plVV a b x goal k u n) z)
  (H:∀ o,PlanG a b x goal w k u n o->Q o):(zAK.j4 x a b (n:Int) goal w rows right).run Q:=by
 have hnu:=ok.nu
 have n6:=ok.n6
 obtain ⟨hk,hu⟩:=ok.le
 have hgl:=ok.gl
 have hsz:=szC_pl (show 123300<=123300 by omega) hnu
 unfold zAK.j4
 refine W.bd (zGL (Z:=fun j M=>CdM (n*u) (n*u+1) (szC 123300 j) M) (t0:=szC 123300 (n*u)) hr hv (by omega) (by omega) ok.cdM Grows.cd (fun out z k1 k2 k3=>?_) (fun out k2=>?_))
 rotate_left
 ·obtain ⟨z,hz⟩:=hex
  exact absurd hz (k2 z)
 obtain ⟨M',⟨d,d0,d1,d2⟩,k4⟩:=k3
 have fz:∀ i,i<n*u->Fd d 505100000 (z i):=fun i hi=>by rw [k4 i hi];exact (d2 i (n*u) hi (by omega)).mono hsz
 have bz:Bt 505100000 d:=Bt.mono (s:=szC 123300 (n*u)) d1 hsz
 have sz:∀ i,i<n*u->Sz 505100000 (z i):=fun i hi=>(fz i hi).sz d0 bz
 have se:∀ t,t<=n->∀ i,i<k->Sz 505140898 (endV k u (mxv a.V k) (mxv b.V u) (fun i=>ratOf (gd x i)) z t i):=fun t ht i hi=>by
  obtain ⟨e,e0,e1,e2⟩:=ok.end_fd d0 bz fz t ht
  exact ((e2 i hi).sz e0 e1).mono (by omega)
 refine W.bd (zDz ok.xl (by omega) (fun j hj=>⟨ok.xv j hj,rfl⟩) fun X hX=>W.bd (zED ok.oa ok.ob ok.aR ok.aC ok.bR ok.bC (S:=505140898) (by omega) hX k1 se (fun c hc=>(sz c hc).mono (by omega)) n6 fun r hr2=>?_))
 have hrl:=hr2.1
 have lin:∀ i,endV k u (mxv a.V k) (mxv b.V u) (fun i=>ratOf (gd x i)) z n i - ratOf (gd goal i)=sm (n*u) (fun c=>plGG a b k u n i c*z c) - plL a b x goal k u n i:=fun i=>by
  have:=zIM (k:=k) (u:=u) (N:=n*u) (A:=mxv a.V k) (B:=mxv b.V u) (x:=fun i=>ratOf (gd x i)) (w:=z) n (Nat.le_refl _) i
  rw [this]
  unfold plL plS plGG
  grind
 have sd:∀ i,i<k->Sz 505141000 (sm (n*u) (fun c=>plGG a b k u n i c*z c) - plL a b x goal k u n i):=fun i hi=>by
  rw [<- lin i]
  exact ((se n (Nat.le_refl n) i hi).sub (ok.gv i hi).sz).mono (by omega)
 have ss:∀ i,i<=k->Sz 20000000000 (sm i (fun i=>(sm (n*u) (fun c=>plGG a b k u n i c*z c) - plL a b x goal k u n i)*(sm (n*u) (fun c=>plGG a b k u n i c*z c) - plL a b x goal k u n i))):=fun i hi=>(Sz.sm fun j hj=>(sd j (by omega)).mul (sd j (by omega))).mono (by omega)
 refine W.loop_c (fun s:zp×Int=>∃ i:Nat,s.2=i/\i<=k/\RRep s.1 (sm i (fun i=>(sm (n*u) (fun c=>plGG a b k u n i c*z c) - plL a b x goal k u n i)*(sm (n*u) (fun c=>plGG a b k u n i c*z c) - plL a b x goal k u n i)))) (fun s=>k - s.2.toNat) ⟨0,rfl,Nat.zero_le _,RRep.zero⟩ ?_
 rintro ⟨sum,_⟩ P ⟨i,rfl,hi,h1⟩ hgo hbrk hout
 simp only at h1 hgo |-
 unfold zAK.l2
 simp only [zCE,hrl]
 refine W.run_if (fun c=>?_) (fun c=>hbrk _ ?_)
 ·have hik:i<k:=by omega
  obtain ⟨w1,w2,w3⟩:=(ok.gv i hik).i64
  refine W.req_i (by omega) (W.req_i (by omega) (W.bd (zDE w1 w2 w3 fun y hy=>W.bd (zEF (hr2.2 i hik) hy ((se n (Nat.le_refl n) i hik).ok (by omega)) ((ok.gv i hik).sz.ok (by omega)) fun v hv2=>?_))))
  have hv3:RRep v (sm (n*u) (fun c=>plGG a b k u n i c*z c) - plL a b x goal k u n i):=by rw [<- lin i];exact hv2
  exact W.bd (zCt hv3 hv3 ((sd i hik).ok (by omega)) ((sd i hik).ok (by omega)) fun q hq=>W.bd (zCg h1 hq ((ss i hi).ok (by omega)) (((sd i hik).mul (sd i hik)).ok (by omega)) fun e he=>hgo _ ⟨i+1,by simp,by omega,he⟩ (by simp;omega)))
 ·obtain rfl:i=k:=by omega
  exact zGM ok k1 k2 sz h1 (ss i (Nat.le_refl i)) H
theorem zGN {Q:ToldP->Prop} {left:List zp} {g:List (List zp)} (ok:PlOk a b x goal w k u n) (hl:RL left k (plL a b x goal k u n)) (hg:RM g (n*u) k (fun c i=>plGG a b k u n i c)) (hex:∃ z,Sol (n*u) (plMM a b w k u n) (plVV a b x goal k u n) z)
  (H:∀ o,PlanG a b x goal w k u n o->Q o):(zAK.j3 w left x a b (n:Int) goal g).run Q:=by
 have hnu:=ok.nu
 have n6:=ok.n6
 obtain ⟨hk,hu⟩:=ok.le
 have hgl:=hg.1
 obtain ⟨dl,l0,l1,l2⟩:=ok.l_fd
 have sl:∀ i,i<k->Sz 41400 (plL a b x goal k u n i):=fun i hi=>(l2 i hi).sz l0 l1
 have sg:∀ i c,i<k->c<n*u->Sz 41400 (plGG a b k u n i c):=fun i c hi hc=>(ok.g_sz (Nat.le_refl n) hi hc).mono (by omega)
 obtain ⟨w1,w2,w3⟩:=ok.vw.i64
 unfold zAK.j3
 refine W.loop_c (fun s:List (List zp)×List zp×Int=>∃ c:Nat,s.2.2=c/\c<=n*u/\s.1.length=c/\(∀ p,p<c->RL (gd s.1 p) (n*u) (plMM a b w k u n p))/\RL s.2.1 c (plVV a b x goal k u n)) (fun s=>n*u - s.2.2.toNat) ⟨0,rfl,Nat.zero_le _,rfl,fun p hp=>by omega,⟨rfl,fun i hi=>by omega⟩⟩ ?_
 rintro ⟨rows,right,_⟩ P ⟨c,rfl,hc,h1,h2,h3⟩ hgo hbrk hout
 simp only at h1 h2 h3 hgo |-
 have h3l:=h3.1
 unfold zAK.l3
 rw [hgl]
 refine W.run_if (fun c1=>?_) (fun c1=>hbrk _ ?_)
 ·have hcN:c<n*u:=by omega
  refine W.loop_c (fun s:List zp×Int=>∃ e:Nat,s.2=e/\e<=n*u/\RL s.1 e (plMM a b w k u n c)) (fun s=>n*u - s.2.toNat) ⟨0,rfl,Nat.zero_le _,⟨rfl,fun i hi=>by omega⟩⟩ ?_
  rintro ⟨r,_⟩ P2 ⟨e,rfl,he,k1⟩ hgo2 hbrk2 hout2
  simp only at k1 hgo2 |-
  have k1l:=k1.1
  unfold zAK.l4
  simp only [zCE,hgl]
  refine W.run_if (fun c2=>?_) (fun c2=>hbrk2 _ ?_)
  ·have heN:e<n*u:=by omega
   have zd:Sz 1000000 (sm k (fun i=>plGG a b k u n i c*plGG a b k u n i e)):=(Sz.sm fun i hi=>(sg i c hi hcN).mul (sg i e hi heN)).mono (by omega)
   have fin:∀ q,RRep q (plMM a b w k u n c e)->(zAK.j9 r (e:Int) q).run P2:=fun q hq=>by
    unfold zAK.j9
    exact W.req_i (by omega) (hgo2 _ ⟨e+1,by simp,by omega,k1.snoc hq⟩ (by simp;omega))
   refine W.req_i (by omega) (W.req_i (by omega) (W.bd (zCq (hg.2 c hcN) (hg.2 e heN) (by omega) (by omega) (by omega) (fun i hi=>sg i c hi hcN) (fun i hi=>sg i e hi heN) fun y hy=>W.run_if (fun c3=>W.bd (zDE w1 w2 w3 fun v hv=>W.bd (zCg hy hv (zd.ok (by omega)) (ok.vw.sz.ok (by omega)) fun q hq=>fin q ?_))) (fun c3=>fin y ?_))))
   ·show RRep q (sm k _+if c=e then ratOf w else 0)
    rw [if_pos (by omega)];exact hq
   ·show RRep y (sm k _+if c=e then ratOf w else 0)
    rw [if_neg (by omega),Rat.add_zero];exact hy
  ·obtain rfl:e=n*u:=by omega
   unfold zAK.j8 zAK.j7
   simp only [zCE,hgl]
   refine W.req_i (by omega) (W.req_i (by omega) (W.bd (zCq (hg.2 c hcN) hl (by omega) (by omega) (by omega) (fun i hi=>sg i c hi hcN) sl fun y hy=>W.req_i (by omega) (hgo _ ⟨c+1,by simp,by omega,by simp [h1],fun p hp=>?_,h3.snoc hy⟩ (by simp;omega)))))
   rw [zGd,h1]
   by_cases e:p<c
   ·rw [if_pos e];exact h2 p e
   ·obtain rfl:p=c:=by omega
    rw [if_neg (by omega),Nat.sub_self]
    exact k1
 ·obtain rfl:c=n*u:=by omega
  exact zFw ok ⟨h1,h2⟩ h3 hex H
theorem zFv {Q:ToldP->Prop} {left:List zp} (ok:PlOk a b x goal w k u n) (hl:RL left k (plL a b x goal k u n)) (hex:∃ z,Sol (n*u) (plMM a b w k u n) (plVV a b x goal k u n) z)
  (H:∀ o,PlanG a b x goal w k u n o->Q o):(zAK.j2 (n:Int) b a w x goal left).run Q:=by
 have hnu:=ok.nu
 have n6:=ok.n6
 obtain ⟨hk,hu⟩:=ok.le
 have e0:(n:Int)*b.C=((n*u:Nat):Int):=by rw [ok.bC];simp
 have aR:=ok.aR
 unfold zAK.j2
 refine W.loop_c (fun s:List (List zp)×Int=>∃ c:Nat,s.2=c/\c<=n*u/\s.1.length=c/\∀ p,p<c->RL (gd s.1 p) k (fun i=>plGG a b k u n i p)) (fun s=>n*u - s.2.toNat) ⟨0,rfl,Nat.zero_le _,rfl,fun p hp=>by omega⟩ ?_
 rintro ⟨g,_⟩ P ⟨c,rfl,hc,h1,h2⟩ hgo hbrk hout
 simp only at h1 h2 hgo |-
 unfold zAK.l5
 rw [e0,aR]
 simp only [Int.toNat_natCast,List.length_replicate]
 refine W.req_i (by show _/\_;omega) (W.run_if (fun c1=>?_) (fun c1=>hbrk _ ?_))
 ·have hcN:c<n*u:=by omega
  refine W.req_i (by show _/\_;omega) (W.req_i (by omega) (W.bd (zEH (n:=1) (by show _/\_;omega) fun y hy=>W.req_i (by omega) (W.req_i (by omega) ?_))))
  have hU:RL ((List.replicate (n*u) (⟨⟨[],false⟩,⟨[],false⟩⟩:zp)).set c y) (n*u) (unitV c):=((RL.zero (n*u)).set hy).congr fun j _=>by unfold unitV;simp
  refine W.bd (zED ok.oa ok.ob ok.aR ok.aC ok.bR ok.bC (S:=40900) (by omega) (RL.zero k) hU (fun t ht i hi=>ok.g_sz ht hi hcN) (fun j _=>((zIa c j).sz (by decide) (by decide)).mono (by omega)) n6 fun r hr=>W.req_i (by omega) (hgo _ ⟨c+1,by simp,by omega,by simp [h1],fun p hp=>?_⟩ (by simp;omega)))
  simp only
  rw [zGd,h1]
  by_cases e:p<c
  ·rw [if_pos e];exact h2 p e
  ·obtain rfl:p=c:=by omega
   rw [if_neg (by omega),Nat.sub_self]
   exact hr
 ·obtain rfl:c=n*u:=by omega
  exact zGN ok hl ⟨h1,h2⟩ hex H
theorem zGi {Q:ToldP->Prop} (ha:a.V.length<=281474976710656) (hb:b.V.length<=281474976710656) (hx:x.length<=281474976710656) (hg:goal.length<=281474976710656) (hm:I64 m) (ho:planR a b x goal m w o) (H:∀ o,planR a b x goal m w o->Q o):(zAK.f a b x goal m w).run Q:=by
 have K1: ¬ plA a b x goal w->Q ([],⟨0,0⟩,1):=fun h=>H _ (.inl ⟨h,rfl⟩)
 unfold zAK.f
 refine W.loop_c (fun s:zn×Int=>∃ i:Nat,s.2=i/\i<=2/\(0<i->matOk a)/\(1<i->matOk b)) (fun s=>2 - s.2.toNat) ⟨0,rfl,by omega,fun h=>by omega,fun h=>by omega⟩ ?_
 rintro ⟨r,_⟩ P ⟨i,rfl,hi,h1,h2⟩ hgo hbrk hout
 simp only at hgo |-
 unfold zAK.l7
 refine W.run_if (fun c=>?_) (fun c=>hbrk _ ?_)
 ·have hi2:i<2:=by simp at c;omega
  refine W.req_i ⟨by omega,c⟩ ?_
  have e:i=0\/i=1:=by omega
  rcases e with rfl | rfl
  ·refine W.bd (zDq ha (fun ok=>?_) (fun ok=>?_))
   ·rw [if_neg (by decide)]
    exact hgo _ ⟨1,rfl,by omega,fun _=>ok,fun h=>by omega⟩ (by simp)
   ·rw [if_pos (by decide)]
    exact hout _ (K1 fun h=>ok h.1)
  ·refine W.bd (zDq hb (fun ok=>?_) (fun ok=>?_))
   ·rw [if_neg (by decide)]
    exact hgo _ ⟨2,rfl,by omega,fun _=>h1 (by omega),fun _=>ok⟩ (by simp)
   ·rw [if_pos (by decide)]
    exact hout _ (K1 fun h=>ok h.2.1)
 have hi2:i=2:=by simp at c;omega
 subst hi2
 have oa:=h1 (by omega)
 have ob:=h2 (by omega)
 unfold zAK.j1
 refine W.bd (zFF hx (W.run_if (fun c1=>?_) (fun c1=>K1 fun h=>c1 (decide_eq_true h.2.2.1))))
 refine W.bd (zFF hg (W.run_if (fun c2=>?_) (fun c2=>K1 fun h=>c2 (decide_eq_true h.2.2.2.1))))
 refine W.bd (zEZ (W.run_if (fun c3=>?_) (fun c3=>K1 fun h=>c3 (decide_eq_true h.2.2.2.2))))
 have hA:plA a b x goal w:=⟨oa,ob,of_decide_eq_true c1,of_decide_eq_true c2,of_decide_eq_true c3⟩
 have K8: ¬ plB a b x goal->Q ([],⟨0,0⟩,8):=fun h=>H _ (.inr (.inl ⟨⟨hA,h⟩,rfl⟩))
 refine W.run_if (fun c4=>K8 fun h=>c4 h.1.symm) (fun c4=>W.run_if (fun c5=>K8 fun h=>c5 h.2.1) (fun c5=>W.run_if (fun c6=>K8 fun h=>c6 h.2.2.1) (fun c6=>W.run_if (fun c7=>K8 fun h=>c7 h.2.2.2) (fun c7=>?_))))
 have hB:plB a b x goal:=⟨by omega,by omega,by omega,by omega⟩
 have K2: ¬ plC w m->Q ([],⟨0,0⟩,1):=fun h=>H _ (.inr (.inr (.inl ⟨⟨hA,hB,h⟩,rfl⟩)))
 refine W.run_if (fun c8=>K2 fun h=>by have:=h.1;omega) (fun c8=>W.run_if (fun c9=>K2 fun h=>by have:=h.2.1;omega) (fun c9=>W.run_if (fun c0=>K2 fun h=>by have:=h.2.2;omega) (fun c0=>?_)))
 have hC:plC w m:=⟨by omega,by omega,by omega⟩
 have ob1:=ob.2.1
 have hp:=zDn (a:=m) (b:=b.C) (by omega) (by omega)
 refine W.req_i (by show _/\_;omega) (W.run_if (fun d1=>H _ (.inr (.inr (.inr (.inl ⟨⟨hA,hB,hC,d1⟩,rfl⟩))))) (fun d1=>?_))
 obtain ⟨k,u,n,rfl,e1,e2,ok⟩:=zIc hA hB hC d1
 obtain ⟨hk,hu⟩:=ok.le
 have e0:(n:Int)*b.C=((n*u:Nat):Int):=by rw [e2];simp
 have hnu:=ok.nu
 have n6:=ok.n6
 have hgl:=ok.gl
 have hex:=ho.sol ok
 rw [e0,Int.toNat_natCast]
 refine W.req_i (by show _/\_;omega) (W.req_i (by omega) (W.bd (zDz ok.xl (by omega) (fun j hj=>⟨ok.xv j hj,rfl⟩) fun X hX=>W.bd (zED oa ob ok.aR ok.aC ok.bR ok.bC (S:=40899) (by omega) hX (RL.zero (n*u)) (fun t ht i hi=>ok.s_sz ht hi) (fun c _=>Sz.zero.mono (by omega)) n6 fun S hS=>?_))))
 have hSl:=hS.1
 refine W.loop_c (fun s:List zp×Int=>∃ i:Nat,s.2=i/\i<=k/\RL s.1 k (fun p=>if p<i then plL a b x goal k u n p else plS a b x k u n p)) (fun s=>k - s.2.toNat) ⟨0,rfl,Nat.zero_le _,hS.congr fun p _=>by rw [if_neg (by omega)]⟩ ?_
 rintro ⟨left,_⟩ P2 ⟨i,rfl,hi,k1⟩ hgo2 hbrk2 hout2
 simp only at k1 hgo2 |-
 have k1l:=k1.1
 unfold zAK.l6
 simp only [zCE,hSl]
 refine W.run_if (fun c2=>?_) (fun c2=>hbrk2 _ ?_)
 ·have hik:i<k:=by omega
  obtain ⟨w1,w2,w3⟩:=(ok.gv i hik).i64
  have hcell:=k1.2 i hik
  dsimp only at hcell
  rw [if_neg (by omega)] at hcell
  refine W.req_i (by omega) (W.req_i (by omega) (W.bd (zDE w1 w2 w3 fun y hy=>W.bd (zEF hy hcell ((ok.gv i hik).sz.ok (by omega)) ((ok.s_sz (Nat.le_refl n) hik).ok (by omega)) fun v hv=>W.req_i (by omega) (hgo2 _ ⟨i+1,by simp,by omega,?_⟩ (by simp;omega))))))
  simp only [Int.toNat_natCast]
  refine (k1.set hv).congr fun p _=>?_
  by_cases e:p=i
  ·rw [if_pos e,if_pos (by omega),e];rfl
  ·have:(p<i+1) ↔ (p<i):=by omega
   rw [if_neg e];simp only [this]
 ·obtain rfl:i=k:=by omega
  exact zFv ok (k1.congr fun p hp=>by rw [if_pos hp]) hex fun o ho=>H o (.inr (.inr (.inr (.inr ⟨i,u,n,rfl,ok,ho⟩))))
theorem zFO (ha:a.V.length<=281474976710656) (hb:b.V.length<=281474976710656) (hx:x.length<=281474976710656) (hg:goal.length<=281474976710656) (hm:I64 m):(zAq.f a b x goal m w).run (fun b=>b=true):=by
 unfold zAq.f
 refine W.bd (zHm ha hb hx hg hm fun o ho=>W.bd (zGi ha hb hx hg hm ho fun p hp=>?_))
 obtain rfl:=planR.uniq ho hp
 rw [if_pos (by simp),if_neg (by simp),if_neg (by simp)]
 refine W.loop_c (fun s:Int=>∃ i:Nat,s=i/\i<=o.1.length) (fun s=>o.1.length - s.toNat) ⟨0,rfl,Nat.zero_le _⟩ ?_
 rintro _ P ⟨i,rfl,hi⟩ hgo hbrk hout
 unfold zAq.l1
 refine W.run_if (fun c=>?_) (fun c=>hbrk _ ?_)
 ·refine W.req_i (by omega) (W.req_i (by omega) (W.bd (zGZ ?_)))
  rw [if_pos rfl]
  exact hgo _ ⟨i+1,by simp,by omega⟩ (by simp;omega)
 ·unfold zAq.j1
  exact W.bd (zGa rfl)
end
end Go.Proofs.Ytlmpoindlejefaa.E
