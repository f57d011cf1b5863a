/- Joined. -/
import Derived.Test.YtlmpoindlejefaaBM30
set_option linter.unusedVariables false
set_option linter.unusedSimpArgs false
namespace Go.Proofs.Ytlmpoindlejefaa.E
open Go Go.RowKit
theorem zF9 {P:zAQ} {n:Nat} {A:Nat->Nat->Rat} {V:Nat->Rat} {q:Rat} {Q:List zAC×zAC×Int->Prop} (hS:Sums P.sums n A V q) (hn:n<=12) (z:Small 973 n A V q) (H:∀ rows,QM rows n (n+1) (augM n (fun i k=>sm n fun l=>A i l*A l k) V)->(zAN.j1 P rows).run Q) :
  (W.bind (W.loop (fun (s:List (List zAD)×Int)=>zAN.l3 P s.1 s.2) (List.replicate P.sums.n.toNat ([]:List zAD),0)) (Lp.on (fun s=>zAN.j1 P s.1) (fun r=>W.ret r))).run Q:=by
 have hml:=hS.hm.1
 have hvl:=hS.hv.1
 generalize hB:(fun i k=>sm n fun l=>A i l*A l k)=B at H
 have hB':∀ i k,B i k=sm n fun l=>A i l*A l k:=fun i k=>by rw [<- hB]
 rw [hS.hn,Int.toNat_natCast]
 refine W.loop_c (fun s:List (List zAD)×Int=>∃ i:Nat,s.2=i/\i<=n/\s.1.length=n/\∀ a,a<i->QL (gd s.1 a) (n+1) (augM n B V a)) (fun s=>n - s.2.toNat) ⟨0,rfl,Nat.zero_le _,by simp,fun a ha=>by omega⟩ ?_
 rintro ⟨rows,_⟩ P1 ⟨i,rfl,hi,h1,h2⟩ hgo hbrk hout
 simp only at h1 h2 hgo |-
 unfold zAN.l3
 simp only [hS.hn]
 refine W.run_if (fun c1=>?_) (fun c1=>hbrk _ (H _ ⟨h1,fun a ha=>h2 a (by omega)⟩))
 have hin:i<n:=by omega
 refine W.req_i (by show _/\_;omega) ?_
 rw [show (n:Int)+1=((n+1:Nat):Int) from rfl]
 refine W.bd (zDd (by omega) fun zr hz=>W.req_i (by omega) ?_)
 simp only [Int.toNat_natCast]
 refine W.loop_c (fun s:List (List zAD)×Int=>∃ k:Nat,s.2=k/\k<=n/\s.1.length=n/\(∀ a,a<i->QL (gd s.1 a) (n+1) (augM n B V a))/\QL (gd s.1 i) (n+1) (fun k'=>if k'<k then B i k' else 0)) (fun s=>n - s.2.toNat) ⟨0,rfl,Nat.zero_le _,by simp [h1],fun a ha=>?_,?_⟩ ?_
 ·show QL (gd (rows.set i zr) a) _ _
  rw [zCX,if_neg (by omega)];exact h2 a ha
 ·show QL (gd (rows.set i zr) i) _ _
  rw [zCX,if_pos ⟨rfl,by omega⟩];exact hz.congr fun j hj=>by rw [if_neg (by omega)]
 rintro ⟨rows2,_⟩ P2 ⟨k,rfl,hk,k1,k2,k3⟩ hgo2 hbrk2 hout2
 simp only at k1 k2 k3 hgo2 |-
 unfold zAN.l4
 simp only [hS.hn]
 refine W.run_if (fun c2=>?_) (fun c2=>hbrk2 _ ?_)
 ·have hkn:k<n:=by omega
  refine W.loop_c (fun s:List (List zAD)×Int=>∃ j:Nat,s.2=j/\j<=n/\s.1.length=n/\(∀ a,a<i->QL (gd s.1 a) (n+1) (augM n B V a))/\QL (gd s.1 i) (n+1) (fun k'=>if k'<k then B i k' else if k'=k then sm j (fun l=>A i l*A l k) else 0)) (fun s=>n - s.2.toNat) ⟨0,rfl,Nat.zero_le _,k1,k2,k3.congr fun k' _=>?_⟩ ?_
  ·by_cases e:k'<k
   ·simp [e]
   ·by_cases e2:k'=k
    ·simp [e,e2,sm]
    ·simp [e,e2]
  rintro ⟨rows3,_⟩ P3 ⟨j,rfl,hj,j1,j2,j3⟩ hgo3 hbrk3 hout3
  simp only at j1 j2 j3 hgo3 |-
  unfold zAN.l5
  simp only [hS.hn,zCI]
  refine W.run_if (fun c3=>?_) (fun c3=>hbrk3 _ ?_)
  ·have hjn:j<n:=by omega
   have cell:=j3.2 k (by omega)
   dsimp only at cell
   rw [if_neg (Nat.lt_irrefl _),if_pos rfl] at cell
   have r1:=hS.hm.2 i hin
   have r2:=hS.hm.2 j hjn
   have l0:=j3.1
   have l1:=r1.1
   have l2:=r2.1
   have s1:=z.a i j hin hjn
   have s2:=z.a j k hjn hkn
   have sp:Sz (j*(973+973+1)+1) (sm j (fun l=>A i l*A l k)):=Sz.sm fun l hl=>(z.a i l hin (by omega)).mul (z.a l k (by omega) hkn)
   refine W.req_i (by omega) (W.req_i (by omega) (W.req_i (by omega) (W.req_i (by omega) (W.req_i (by omega) (W.req_i (by omega) (W.req_i (by omega) (W.bd (zBh (r1.2 j hjn) (r2.2 k hkn) (s1.ok (by omega)) (s2.ok (by omega)) fun x hx=>W.bd (zCB cell hx (sp.ok (by omega)) ((s1.mul s2).ok (by omega)) fun y hy=>W.req_i (by omega) (hgo3 _ ⟨j+1,by simp,by omega,by simp [j1],fun a ha=>?_,?_⟩ (by simp;omega)))))))))))
   ·simp only [Int.toNat_natCast]
    rw [zCX,if_neg (by omega)];exact j2 a ha
   ·simp only [Int.toNat_natCast]
    rw [zCX,if_pos ⟨rfl,by omega⟩]
    refine (j3.set hy).congr fun k' hk'=>?_
    by_cases e:k'=k
    ·subst e
     rw [if_pos rfl,if_neg (Nat.lt_irrefl _),if_pos rfl];rfl
    ·simp [e]
  ·obtain rfl:j=n:=by omega
   unfold zAN.j6
   refine hgo2 _ ⟨k+1,by simp,by omega,j1,j2,j3.congr fun k' hk'=>?_⟩ (by simp;omega)
   by_cases e:k'<k
   ·rw [if_pos e,if_pos (by omega)]
   ·by_cases e2:k'=k
    ·subst e2;rw [if_neg e,if_pos rfl,if_pos (by omega),hB']
    ·rw [if_neg e,if_neg e2,if_neg (by omega)]
 ·obtain rfl:k=n:=by omega
  have l0:=k3.1
  unfold zAN.j5
  simp only [hS.hn,zCI,Int.toNat_natCast]
  refine W.req_i (by omega) (W.req_i (by omega) (W.req_i (by omega) ?_))
  unfold zAN.j4
  refine hgo _ ⟨i+1,by simp,by omega,by simp [k1],fun a ha=>?_⟩ (by simp;omega)
  rw [zCX]
  by_cases e:i=a
  ·subst e
   rw [if_pos ⟨rfl,by omega⟩]
   refine (k3.set (hS.hv.2 i hin)).congr fun k' hk'=>?_
   unfold augM
   by_cases e2:k'=k
   ·rw [if_pos e2,if_pos e2]
   ·rw [if_neg e2,if_neg e2,if_pos (by omega)]
  ·rw [if_neg (by omega)];exact k2 a (by omega)
theorem QL.xset {M:Nat->Nat->Rat} {piv:List Int} {c:Nat} {l:List zAD} {n i:Nat} (h:QL l n (xvp M piv c i)) {q:zAD} (hq:QRep q (M i c)):QL (l.set (nd piv i) q) n (xvp M piv c (i+1)):=by
 refine (h.set hq).congr fun j hj=>?_
 unfold xvp
 conv=>rhs;unfold pix
 by_cases e:j=nd piv i
 ·rw [if_pos e,if_pos e.symm]
 ·rw [if_neg e,if_neg (fun h=>e h.symm)]
theorem CdM.xfd {M:Nat->Nat->Rat} {piv:List Int} {r c s:Nat} (h:CdM r (c+1) s M) (hl:piv.length<=r):∃ d:Int,d≠0/\d.natAbs<2 ^ s/\∀ q,Fd d s (xvp M piv c piv.length q):=by
 obtain ⟨d,h0,h1,h2⟩:=h
 refine ⟨d,h0,h1,fun q=>?_⟩
 unfold xvp
 cases hp:pix piv q piv.length with
 | none=>exact Fd.zero
 | some a=>exact h2 a c (by have:=(zGF hp).1;omega) (by omega)
theorem zF8 {P:zAQ} {n:Nat} {A:Nat->Nat->Rat} {V:Nat->Rat} {q:Rat} {rows:List (List zAD)} {Q:List zAC×zAC×Int->Prop} (hS:Sums P.sums n A V q) (hn:n<=12) (z:Small 973 n A V q) (cA:∃ d:Int,d≠0/\Bt 12560 d/\∀ i k,i<n->k<n->Fd d 12572 (A i k)) (hs:∀ i k,A i k=A k i)
  (cB:CdM n (n+1) 25160 (augM n (fun i k=>sm n fun l=>A i l*A l k) V)) (hsol:∃ z:Nat->Rat,∀ i,i<n->dz n (fun k=>sm n fun l=>A i l*A l k) z=V i) (hr:QM rows n (n+1) (augM n (fun i k=>sm n fun l=>A i l*A l k) V))
  (H:∀ x l o,NV n A V x->(∀ i,i<n->Sz 103200000 (x i))->QL l n x->QRep o (errQ n A V q x)->(zDe.f l o).run fun a=>Q (a.1,a.2.1,a.2.2)):(zAN.j1 P rows).run Q:=by
 have hml:=hS.hm.1
 unfold zAN.j1
 rw [hS.hn]
 refine W.bd (zDd (by omega) fun z0 hz0=>W.bd (zE1 (Z:=fun k N=>CdM n (n+1) (szC 25160 k) N) hr (by omega) (by omega) (by omega) (by have:=szC_12 (Nat.le_refl 25160) hn;omega) cB Grows.cd fun piv rows' M' q1 q2 q3=>?_))
 have hple:=q2.le
 obtain ⟨zz,hzz⟩:=hsol
 have hx:=q2.xsol (q2.clean hzz)
 obtain ⟨d,d0,d1,d2⟩:=(q3.mono (szC_12 (Nat.le_refl 25160) hn)).xfd hple
 obtain ⟨e,e0,e1,e2⟩:=cA
 refine W.loop_c (fun s':List zAD×Int=>∃ k:Nat,s'.2=k/\k<=piv.length/\QL s'.1 n (xvp M' piv n k)) (fun s=>piv.length - s.2.toNat) ⟨0,rfl,Nat.zero_le _,hz0⟩ ?_
 rintro ⟨zl,_⟩ P2 ⟨k,rfl,hk,k1⟩ hgo2 hbrk2 hout2
 simp only at k1 hgo2 |-
 have hzl:=k1.1
 unfold zAN.l2
 dsimp only
 refine W.run_if (fun c1=>?_) (fun c1=>hbrk2 _ ?_)
 ·have hv:=q2.lt k (by omega)
  have hrow:=q1.2 k (by omega)
  have hl2:=hrow.1
  have hrl:=q1.1
  rw [gi_nd hv.1,hS.hn]
  simp only [zCI]
  refine W.req_i (by omega) (W.req_i (by omega) (W.req_i (by omega) (W.req_i (by omega) (hgo2 _ ⟨k+1,by simp,by omega,?_⟩ (by simp;omega)))))
  simp only [Int.toNat_natCast]
  exact k1.xset (hrow.2 n (by omega))
 obtain rfl:k=piv.length:=by omega
 clear hgo2 hbrk2 hout2
 generalize hzd:xvp M' piv n piv.length=zv at *
 have szz:∀ i,i<n->Sz 103100000 (zv i):=fun i hi=>(d2 i).sz d0 d1
 have hxt:∀ t,12572+103100000+n<=t->∀ i,i<n->Sz t (dz n (A i) zv):=fun t ht i hi=>by
  have f1:Fd (e*d) (12572+103100000+n) (dz n (A i) zv):=Fd.sm fun j hj=>(e2 i j hi hj).mul (d2 j) e0 d0
  exact (f1.mono ht).sz (Int.mul_ne_zero e0 d0) (zCM (zA8 e1 d1) (by omega))
 have hxe:=hxt 103200000 (by omega)
 have hNV:NV n A V (fun k=>dz n (A k) zv):=NV.range hs fun i hi=>by rw [<- zIi];exact hx i hi
 unfold zAN.j2
 rw [hS.hn,Int.toNat_natCast]
 refine W.req_i (by omega) ?_
 refine W.loop_c (fun s':List zAD×Int=>∃ i:Nat,s'.2=i/\i<=n/\s'.1.length=n/\∀ j,j<i->QRep (gd s'.1 j) (dz n (A j) zv)) (fun s=>n - s.2.toNat) ⟨0,rfl,Nat.zero_le _,by simp,fun j hj=>by omega⟩ ?_
 rintro ⟨xl,_⟩ P3 ⟨i,rfl,hi,i1,i2⟩ hgo3 hbrk3 hout3
 simp only at i1 i2 hgo3 |-
 unfold zAN.l1
 simp only [hS.hn,zCI]
 refine W.run_if (fun c3=>?_) (fun c3=>hbrk3 _ ?_)
 ·have hin:i<n:=by omega
  refine W.req_i (by omega) (W.bd (zEQ (hS.hm.2 i hin) k1 (by omega) (by omega) (fun k hk=>z.a i k hin hk) szz fun y hy=>W.req_i (by omega) (hgo3 _ ⟨i+1,by simp,by omega,by simp [i1],fun j hj=>?_⟩ (by simp;omega))))
  simp only [Int.toNat_natCast]
  rw [zCX]
  by_cases e:i=j
  ·subst e;rw [if_pos ⟨rfl,by omega⟩];exact hy
  ·rw [if_neg (by omega)];exact i2 j (by omega)
 ·obtain rfl:i=n:=by omega
  have hxl:QL xl i (fun k=>dz i (A k) zv):=⟨i1,i2⟩
  unfold zAN.j3
  exact W.bd (zFE (S:=⟨P.sums.n,P.sums.m,P.sums.v,P.sums.q⟩) ⟨hS.hn,hS.hm,hS.hv,hS.hq⟩ hn hxl z (fun j hj=>(hxe j hj).mono (by omega)) fun o ho=>W.bd (H _ _ _ hNV hxe hxl ho))
end Go.Proofs.Ytlmpoindlejefaa.E
namespace Go.Proofs.Ytlmpoindlejefaa.E
open Go Go.RowKit
abbrev Told:=List zAC×zAC×Int
def okA (m:zAh) (b:List zAC):Prop:=matOk m/\∀ r ∈ b,valid r
def toldO (n:Nat) (A:Nat->Nat->Rat) (V:Nat->Rat) (q:Rat) (x:Nat->Rat) (o:Told):Prop:=
 (allTold n x/\(toldR (errQ n A V q x)).2=true)/\o=(tolds n x,(toldR (errQ n A V q x)).1,0)\/¬ (allTold n x/\(toldR (errQ n A V q x)).2=true)/\o=([],⟨0,0⟩,3)
def argsR (m:zAh) (b:List zAC) (G:Nat->Nat->Told->Prop) (o:Told):Prop:=
 ¬ okA m b/\o=([],⟨0,0⟩,1)\/okA m b/\(b.length:Int)≠m.R/\o=([],⟨0,0⟩,8)\/∃ r c:Nat,okA m b/\m.R=r/\m.C=c/\b.length=r/\G r c o
def LeastG (m:zAh) (b:List zAC) (r c:Nat) (o:Told):Prop:=(∃ x,Sol c (gA m.V c r) (gV m.V b c r) x/\toldO c (gA m.V c r) (gV m.V b c r) (gq b r) x o)\/(∀ x,¬ Sol c (gA m.V c r) (gV m.V b c r) x)/\o=([],⟨0,0⟩,4)
def NearG (m:zAh) (b:List zAC) (r c:Nat) (o:Told):Prop:=∃ x,NV c (gA m.V c r) (gV m.V b c r) x/\toldO c (gA m.V c r) (gV m.V b c r) (gq b r) x o
theorem zH6 (v:List zAC) (c r:Nat):∀ i k,gA v c r i k=gA v c r k i:=fun i k=>zAW fun j _=>Rat.mul_comm _ _
section
variable {m:zAh} {b:List zAC} {Q:Told->Prop}
theorem zFx {l:List zAD} {o:zAD} {n:Nat} {A:Nat->Nat->Rat} {V:Nat->Rat} {q:Rat} {x:Nat->Rat} (hl:QL l n x) (hn:n<=12) (ho:QRep o (errQ n A V q x)) (H:∀ t,toldO n A V q x t->Q t):(zDe.f l o).run fun a=>Q (a.1,a.2.1,a.2.2):=
 zFw hl (by omega) ho (fun t1 t2=>H _ (.inl ⟨⟨t1,t2⟩,rfl⟩)) (fun t=>H _ (.inr ⟨t,rfl⟩))
theorem zIL {F:W Told} (hl:m.V.length<=281474976710656) (hb:b.length<=281474976710656) {G:Nat->Nat->Told->Prop} (H:∀ o,argsR m b G o->Q o)
  (h0:∀ r c:Nat,matOk m->(∀ k,k<r->valid (gd b k))->m.R=r->m.C=c->b.length=r->r<=12->c<=12->(∀ o,G r c o->Q o)->F.run Q) :
  (W.bind (zDT.f m b) (fun g=>if g≠0 then (W.ret ([],(⟨0,0⟩:zAC),g)) else (if (b.length:Int)≠m.R then (W.ret ([],(⟨0,0⟩:zAC),8)) else F))).run Q:=by
 refine W.bd (zFc hl hb (fun ok vb=>?_) (fun c=>?_))
 ·rw [if_neg (by decide)]
  refine W.run_if (fun c=>H _ (.inr (.inl ⟨⟨ok,vb⟩,c,rfl⟩))) (fun c=>?_)
  have o1:=ok.1
  have o2:=ok.2.1
  obtain ⟨r,hR⟩:=Int.eq_ofNat_of_zero_le o1.1
  obtain ⟨c',hC⟩:=Int.eq_ofNat_of_zero_le o2.1
  have hbl:b.length=r:=by omega
  exact h0 r c' ok (fun k hk=>(zAv b).1 vb k (by omega)) hR hC hbl (by omega) (by omega) fun o ho=>H o (.inr (.inr ⟨r,c',⟨ok,vb⟩,hR,hC,hbl,ho⟩))
 ·rw [if_pos (by decide)]
  exact H _ (.inl ⟨c,rfl⟩)
theorem zHP (hl:m.V.length<=281474976710656) (hb:b.length<=281474976710656) (H:∀ o,argsR m b (LeastG m b) o->Q o):(zEu.f m b).run Q:=by
 unfold zEu.f
 refine zIL hl hb H fun r c ok vb hR hC hbl hr hc K=>?_
 have z:=zGg (n:=r) hr (Nat.le_refl r) (ok.at hR hC).2 vb
 refine W.bd (zD4 ok hR hC hbl vb fun P hP=>W.bd (zEO hP.hm hP.hv (by omega) (by have:=zIh (Nat.le_refl 973) hc;omega) z.a z.v (fun out x k1 k2 k3=>?_) (fun u u1 u2=>?_)))
 ·rw [if_pos rfl]
  have k3':∀ i,i<c->Sz 16400000000 (x i):=fun i hi=>(k3 i hi).mono (zIh (Nat.le_refl 973) hc)
  exact W.bd (zFE (S:=⟨P.sums.n,P.sums.m,P.sums.v,P.sums.q⟩) ⟨hP.hn,hP.hm,hP.hv,hP.hq⟩ hc k1 z k3' fun o ho=>W.bd (zFx k1 hc ho fun t ht=>K t (.inl ⟨x,k2,ht⟩)))
 ·rw [if_neg (by simp)]
  refine K _ (.inr ⟨fun x hx=>?_,rfl⟩)
  obtain ⟨g,hg,hu⟩:=u1
  have s1:=(hx x).2 fun i _=>rfl
  have s2:=(hx (fun i=>x i+u i)).1 fun i hi=>by
   have a:=s1 i hi
   have b:=u2 i hi
   unfold dz at a b |-
   rw [zAW (g:=fun j=>gA m.V c r i j*x j+gA m.V c r i j*u j) fun j _=>by grind,zER,a,b,Rat.add_zero]
  have:=s2 g hg
  exact absurd (show u g=0 by grind) hu
theorem zGh (hl:m.V.length<=281474976710656) (hb:b.length<=281474976710656) (H:∀ o,argsR m b (NearG m b) o->Q o):(zAN.f m b).run Q:=by
 unfold zAN.f
 refine zIL hl hb H fun r c ok vb hR hC hbl hr hc K=>?_
 have hv:=(ok.at hR hC).2
 have z:=zGg (n:=r) hr (Nat.le_refl r) hv vb
 refine W.bd (zD4 ok hR hC hbl vb fun P hP=>W.req_i (by rw [hP.hn];omega) (zF9 hP hc z fun rows hrows=>?_))
 obtain ⟨d,d0,d1,d2,d3⟩:=zHu hr hc hv vb
 exact zF8 hP hc z ⟨d,d0,d1,d2⟩ (zH6 _ _ _) (zIU hr hc hv vb) (zIT r c (mxv m.V c) (fun j=>ratOf (gd b j))) hrows fun x l o h1 h2 h3 h4=>zFx h3 hc h4 fun t ht=>K t ⟨x,h1,ht⟩
end
end Go.Proofs.Ytlmpoindlejefaa.E
