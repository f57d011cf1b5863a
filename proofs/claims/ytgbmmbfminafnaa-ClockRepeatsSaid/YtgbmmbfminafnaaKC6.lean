/- Joined. -/
import Derived.Test.YtgbmmbfminafnaaKC4
set_option linter.unusedVariables false
set_option linter.unusedSimpArgs false
namespace Go.Proofs.Ytgbmmbfminafnaa.E
open Go Go.RowKit
def zQ:num_Q:=⟨⟨0,[],false⟩,⟨0,[],false⟩⟩
structure RowQ (p:List num_Q) (n:Nat) (U:Nat->Bool) (w:Nat->Rat) (s:Nat):Prop where
 len:p.length=n
 yes:∀ k,k<n->U k=true->QRep (gd p k) (w k)/\Sz s (w k)
 no:∀ k,k<n->U k=false->gd p k=zQ
def addU (U:Nat->Bool) (b k:Nat):Bool:=U k || k == b
theorem addU_iff {U:Nat->Bool} {b k:Nat} :addU U b k=true ↔ U k=true\/k=b:=by simp [addU]
section
variable {n r:Nat} {p:List num_Q} {U U0:Nat->Bool} {w:Nat->Rat} {s:Nat} {l:List api_Flow}
theorem RowQ.mono {t:Nat} (h:RowQ p n U w s) (hst:s<=t):RowQ p n U w t:=⟨h.len,fun k hk hu=>⟨(h.yes k hk hu).1,(h.yes k hk hu).2.mono hst⟩,h.no⟩
theorem RowQ.add (h:RowQ p n U w s) {b:Nat} {z:num_Q} (hz:QRep z (w b)) (hs:Sz s (w b)):RowQ (p.set b z) n (addU U b) w s:=by
 refine ⟨by rw [List.length_set,h.len],fun k hk hu=>?_,fun k hk hu=>?_⟩
 ·rw [gd_set]
  by_cases e:k=b
  ·rw [if_pos ⟨e.symm,by rw [h.len];omega⟩,e];exact ⟨hz,hs⟩
  ·rw [if_neg fun g=>e g.1.symm]
   exact h.yes k hk ((addU_iff.1 hu).resolve_right e)
 ·have h1: ¬ (U k=true\/k=b):=fun g=>by rw [addU_iff.2 g] at hu;cases hu
  rw [gd_set,if_neg fun g=>h1 (.inr g.1.symm)]
  exact h.no k hk (by cases e:U k with | true=>exact absurd (.inl e) h1 | false=>rfl)
theorem dsign_run {Q:Int->Prop} (h:RowQ p n U w s) {k:Nat} (hk:k<n) (H1:U k=true->∀ e,e≠0->Q e) (H0:U k=false->Q 0):(num_Z_Sign.f (gd p k).D).run Q:=by
 cases e:U k with
 | true=>
  refine num_Sign_run (h.yes k hk e).1.d (H1 e _ ?_)
  have:=(w k).den_pos
  unfold sgn
  rw [if_neg (by omega),if_neg (by omega)]
  decide
 | false=>
  rw [h.no k hk e]
  exact num_Sign_run (ZRep.int (n:=0) (by show _/\_;omega)) (H0 e)
theorem num_Frac_run {a b:Int} {Q:num_Q->Prop} (ha:1<=a) (ha2:a<=60) (hb:1<=b) (hb2:b<=60) (H:∀ z,QRep z ((a:Rat) / b)->Sz 6 ((a:Rat) / b)->Q z):(num_Frac.f a b).run Q:=by
 unfold num_Frac.f
 have h1:a.natAbs<2 ^ 6:=by omega
 have h2:b.natAbs<2 ^ 6:=by omega
 refine W.bd (num_I_run (by show _/\_;omega) fun u hu=>W.bd (num_I_run (by show _/\_;omega) fun v hv=>W.bd (num_Over_run hu hv (by omega) (s:=6) (by omega) h1 h2 fun z hz=>?_)))
 rw [Rat.divInt_eq_div] at hz
 exact H z hz (by rw [<- Rat.divInt_eq_div];exact Sz.over (by omega) h1 h2)
structure Spr (n:Nat) (l:List api_Flow) (r:Nat) (U0 U:Nat->Bool) (j:Nat):Prop where
 cn:∀ k,U k=true->Cn (l.map fN) r k
 up:∀ k,U0 k=true->U k=true
 pr:(∃ k,k<n/\U k=true/\U0 k=false)\/((∀ k,U k=U0 k)/\∀ e,e<j->U0 (gd l e).A.toNat=U0 (gd l e).B.toNat)
 st:(∀ e,e<l.length->U0 (gd l e).A.toNat=U0 (gd l e).B.toNat)->∀ k,U k=U0 k
theorem Spr.init (h:∀ k,U0 k=true->Cn (l.map fN) r k):Spr n l r U0 U0 0:=⟨h,fun _ h=>h,.inr ⟨fun _=>rfl,fun e he=>by omega⟩,fun _ _=>rfl⟩
theorem Spr.same {j:Nat} (h:Spr n l r U0 U j) (hU:U (gd l j).A.toNat=U (gd l j).B.toNat):Spr n l r U0 U (j+1):=by
 refine ⟨h.cn,h.up,h.pr.imp_right fun ⟨g1,g2⟩=>⟨g1,fun e he=>?_⟩,h.st⟩
 by_cases c:e=j
 ·rw [c,<- g1,<- g1];exact hU
 ·exact g2 e (by omega)
theorem Spr.add {j a b:Nat} (h:Spr n l r U0 U j) (hj:j<l.length) (hab:a=(gd l j).A.toNat/\b=(gd l j).B.toNat\/b=(gd l j).A.toNat/\a=(gd l j).B.toNat) (ha:U a=true) (hb:U b=false) (hbn:b<n):Spr n l r U0 (addU U b) (j+1):=by
 have hm:((gd l j).A.toNat,(gd l j).B.toNat) ∈ l.map fN:=List.mem_map.2 ⟨_,gd_mem hj,rfl⟩
 have aj:Aj (l.map fN) a b:=by
  rcases hab with ⟨rfl,rfl⟩ | ⟨rfl,rfl⟩
  ·exact .inl hm
  ·exact .inr hm
 have h0b:U0 b=false:=by cases e:U0 b with | true=>rw [h.up b e] at hb;cases hb | false=>rfl
 refine ⟨fun k hk=>?_,fun k hk=>addU_iff.2 (.inl (h.up k hk)),.inl ⟨b,hbn,addU_iff.2 (.inr rfl),h0b⟩,fun hc=>?_⟩
 ·rcases addU_iff.1 hk with hk | rfl
  ·exact h.cn k hk
  ·exact (h.cn a ha).step aj
 ·have g:=h.st hc
  have:=hc j hj
  rw [g] at ha hb
  rcases hab with ⟨rfl,rfl⟩ | ⟨rfl,rfl⟩
  ·rw [ha,hb] at this;cases this
  ·rw [ha,hb] at this;cases this
def cntU (n:Nat) (U:Nat->Bool):Nat:=((List.range n).filter U).length
def CloF (l:List api_Flow) (U:Nat->Bool):Prop:=∀ e,e<l.length->U (gd l e).A.toNat=U (gd l e).B.toNat
theorem Spr.done {q:Nat} (h:Spr n l r U0 U l.length) (h0:CloF l U0\/q<=cntU n U0):CloF l U\/q+1<=cntU n U:=by
 rcases h0 with h0 | h0
 ·have g:=h.st h0
  exact .inl fun e he=>by rw [g,g];exact h0 e he
 ·rcases h.pr with ⟨k,k1,k2,k3⟩ | ⟨g1,g2⟩
  ·refine .inr ?_
   rcases Nat.lt_or_ge (cntU n U0) (cntU n U) with c | c
   ·omega
   ·have:=fil_eq (p:=U0) (q:=U) h.up c k (List.mem_range.2 k1) k2
    rw [this] at k3;cases k3
  ·exact .inl fun e he=>by rw [g1,g1];exact g2 e he
end
section
variable {n r:Nat} {w:Nat->Rat} {l:List api_Flow}
theorem rep_round {p0:List num_Q} {U0:Nat->Bool} {s:Nat} {S:Type} {D:List num_Q×Int->W S} {O:((List Int)×Int×Int)->W S} {Q:S->Prop} (hl:l.length<=64) (ok:∀ f ∈ l,okF n f) (hw:Sat l w) (hs:s<=1000000)
  (hp:RowQ p0 n U0 w s) (hc:∀ k,U0 k=true->Cn (l.map fN) r k) (H:∀ p i U,RowQ p n U w (s+384)->Spr n l r U0 U l.length->(D (p,i)).run Q) :
  (W.bind (W.loop (fun (s:List num_Q×Int)=>clock_Repeats.l6 l s.1 s.2) (p0,0)) (Lp.on D O)).run Q:=by
 refine W.loop_c (fun s':List num_Q×Int=>∃ (j:Nat) (U:Nat->Bool),s'.2=j/\j<=l.length/\RowQ s'.1 n U w (s+6*j)/\Spr n l r U0 U j) (fun s=>l.length - s.2.toNat) ⟨0,U0,rfl,Nat.zero_le _,hp,Spr.init hc⟩ ?_
 rintro ⟨p,_⟩ P ⟨j,U,rfl,hj,hR,hS⟩ hgo hbrk hout
 simp only at hR hgo |-
 have hpl:=hR.len
 unfold clock_Repeats.l6
 simp only [gi_gd]
 refine W.run_if (fun c=>?_) (fun c=>hbrk _ (H _ _ U (hR.mono (by omega)) ((by omega:j=l.length) ▸ hS)))
 have hjl:j<l.length:=by omega
 have hf:=ok _ (gd_mem hjl)
 have e1:(gd l j).A=((gd l j).A.toNat:Int):=by have:=hf.a0;omega
 have e2:(gd l j).B=((gd l j).B.toNat:Int):=by have:=hf.b0;omega
 have a1:=hf.an
 have b1:=hf.bn
 have eq:=hw _ (gd_mem hjl)
 have hput:=hf.put
 have htake:=hf.take
 have stay:U (gd l j).A.toNat=U (gd l j).B.toNat->P (.go (p,(j:Int)+1)):=fun h=>hgo _ ⟨j+1,U,by simp,by omega,hR.mono (by omega),hS.same h⟩ (by simp;omega)
 have toB:U (gd l j).A.toNat=true->U (gd l j).B.toNat=false->(clock_Repeats.j8 l (j:Int) p true).run P:=fun ha hb=>by
  unfold clock_Repeats.j8
  simp only [gi_gd]
  rw [if_pos trivial,gi_gdi e1]
  have ya:=hR.yes _ a1 ha
  refine W.req_i (by omega) (W.bd (num_Frac_run hf.p0 hf.p1 hf.t0 hf.t1 fun z hz sz=>W.bd (num_Q_Mul_run ya.1 hz (ya.2.ok (by omega)) (sz.ok (by omega)) fun u hu=>W.req_i (by omega) (hgo _ ⟨j+1,_,by simp,by omega,?_,hS.add (a:=(gd l j).A.toNat) hjl (.inl ⟨rfl,rfl⟩) ha hb b1⟩ (by simp;omega)))))
  have hv:w (gd l j).A.toNat*(((gd l j).Put:Rat) / ((gd l j).Take:Rat))=w (gd l j).B.toNat:=by
   rw [Rat.div_def,<- Rat.mul_assoc,Rat.mul_comm (w _),eq]
   grind
  rw [hv] at hu
  exact (hR.mono (by omega)).add hu ((hv ▸ ya.2.mul sz).mono (by omega))
 refine W.req_i (by omega) (W.req_i (by omega) (W.bd ?_))
 rw [gi_gdi e1]
 have other:(U (gd l j).A.toNat=true->U (gd l j).B.toNat=true)->(clock_Repeats.j8 l (j:Int) p false).run P:=fun h=>by
  unfold clock_Repeats.j8
  simp only [gi_gd]
  rw [if_neg (by simp),gi_gdi e2,gi_gdi e1]
  refine W.req_i (by omega) (W.bd (dsign_run hR b1 (fun ub e he=>W.run_if (fun _=>W.req_i (by omega) (W.bd (dsign_run hR a1 (fun ua e he=>W.run_if (fun c=>absurd c he) fun _=>stay (by rw [ua,ub])) (fun ua=>W.run_if (fun _=>?_) fun c=>absurd rfl c)))) fun c=>absurd he c) (fun ub=>W.run_if (fun c=>absurd rfl c) fun _=>stay ?_)))
  ·have yb:=hR.yes _ b1 ub
   refine W.req_i (by omega) (W.bd (num_Frac_run hf.t0 hf.t1 hf.p0 hf.p1 fun z hz sz=>W.bd (num_Q_Mul_run yb.1 hz (yb.2.ok (by omega)) (sz.ok (by omega)) fun u hu=>W.req_i (by omega) (hgo _ ⟨j+1,_,by simp,by omega,?_,hS.add (a:=(gd l j).B.toNat) hjl (.inr ⟨rfl,rfl⟩) ub ua a1⟩ (by simp;omega)))))
   have hv:w (gd l j).B.toNat*(((gd l j).Take:Rat) / ((gd l j).Put:Rat))=w (gd l j).A.toNat:=by
    rw [Rat.div_def,<- Rat.mul_assoc,Rat.mul_comm (w _),<- eq]
    grind
   rw [hv] at hu
   exact (hR.mono (by omega)).add hu ((hv ▸ yb.2.mul sz).mono (by omega))
  ·cases e:U (gd l j).A.toNat with
   | true=>rw [h e] at ub;cases ub
   | false=>rw [ub]
 refine dsign_run hR a1 (fun ua e he=>W.run_if (fun _=>W.req_i (by omega) (W.bd ?_)) fun c=>absurd he c) (fun ua=>W.run_if (fun c=>absurd rfl c) fun _=>other fun h=>by rw [ua] at h;cases h)
 rw [gi_gdi e2]
 exact dsign_run hR b1 (fun ub e he=>W.run_if (fun c=>absurd c he) fun _=>other fun _=>ub) (fun ub=>W.run_if (fun _=>toB ua ub) fun c=>absurd rfl c)
end
end Go.Proofs.Ytgbmmbfminafnaa.E
namespace Go.Proofs.Ytgbmmbfminafnaa.E
open Go Go.RowKit
theorem clock_quo_run {a b:num_Z} {x y:Int} {s:Nat} {Q:num_Z->Prop} (ha:ZRep a x) (hb:ZRep b y) (hs:s<=35184372087999) (sx:x.natAbs<2 ^ s) (sy:y.natAbs<2 ^ s) (h0:y≠0) (H:∀ z,ZRep z (x.tdiv y)->Q z):(clock_quo.f a b).run Q:=by
 unfold clock_quo.f
 exact W.bd (num_Quo_run ha hb hs sx sy h0 fun z u hz hu=>H z hz)
theorem tdiv_nat (d g:Nat):(d:Int).tdiv (g:Int)=((d / g:Nat):Int):=by rw [Int.tdiv_eq_ediv_of_nonneg (by omega)];simp
theorem tdiv_of {x y q:Int} (hy:y≠0) (h:x=q*y):x.tdiv y=q:=by rw [h,Int.mul_tdiv_cancel _ hy]
theorem lcm_step {D d g:Nat} (hg:g=Nat.gcd D d) (hD:0<D) (hd:0<d):0<D*(d / g)/\D ∣ D*(d / g)/\d ∣ D*(d / g)/\D*(d / g)<=D*d:=by
 have h1:g ∣ D:=hg ▸ Nat.gcd_dvd_left D d
 have h2:g ∣ d:=hg ▸ Nat.gcd_dvd_right D d
 have h0:0<g:=hg ▸ Nat.gcd_pos_of_pos_left d hD
 obtain ⟨D1,rfl⟩:=h1
 obtain ⟨d1,rfl⟩:=h2
 rw [Nat.mul_div_cancel_left _ h0]
 have:0<d1:=Nat.pos_of_mul_pos_left hd
 refine ⟨Nat.mul_pos hD this,Nat.dvd_mul_right ..,⟨D1,?_⟩,Nat.mul_le_mul_left _ (Nat.le_mul_of_pos_left _ h0)⟩
 rw [Nat.mul_assoc,Nat.mul_assoc,Nat.mul_comm D1 d1]
structure Prim (n:Nat) (l:List api_Flow) (r:Nat) (T:Nat->Int):Prop where
 pos:∀ k,k<n->Cn (l.map fN) r k->0<T k
 sat:∀ f ∈ l,Cn (l.map fN) r f.A.toNat->f.Put*T f.A.toNat=f.Take*T f.B.toNat
 cop:∀ d:Int,(∀ k,k<n->Cn (l.map fN) r k->d ∣ T k)->d ∣ 1
theorem toZ_at {mem:List Nat} {t:Nat} (ht:t<mem.length):gi (mem.map toZ) (t:Int)=((gd mem t:Nat):Int):=by
 rw [gi_gd,gd_lt (by rw [List.length_map];exact ht),List.getElem_map,gd_lt ht]
 rfl
section
variable {n r S:Nat} {l:List api_Flow} {mem:List Nat} {w:Nat->Rat} {r45:List (List Int)} {p74:Int} {p73:List Int} {p:List num_Q} {P:Ctl (List Int×Int) (List Int×Int×Int)->Prop}
def xwh (w:Nat->Rat) (D k:Nat):Int:=(w k).num*((D / (w k).den:Nat):Int)
theorem xwh_rat {D k:Nat} (h:(w k).den ∣ D):((xwh w D k:Int):Rat)=w k*D:=by
 obtain ⟨e,rfl⟩:=h
 have hd:=(w k).den_pos
 unfold xwh
 rw [Nat.mul_div_cancel_left _ hd]
 have h1:(w k)=((w k).num:Rat) / ((w k).den:Rat):=by
  have:=Rat.divInt_eq_div (w k).num ((w k).den:Int)
  rwa [Rat.num_divInt_den,Rat.intCast_natCast] at this
 have h2:((w k).den:Rat)≠0:=by
  intro z
  have:(((w k).den:Int):Rat)=((0:Int):Rat):=by rw [Rat.intCast_natCast,z];rfl
  have:=Rat.intCast_inj.1 this
  omega
 conv=>rhs;rw [h1]
 push_cast
 grind
theorem xwh_pos {D k:Nat} (h:(w k).den ∣ D) (D0:0<D) (h2:0<w k):0<xwh w D k:=by
 have h1:=xwh_rat h
 have h3:(0:Rat)<(D:Rat):=by
  have:((0:Int):Rat)<((D:Int):Rat):=Rat.intCast_lt_intCast.2 (by omega)
  rwa [Rat.intCast_natCast] at this
 have h4:=Rat.mul_pos h2 h3
 rw [<- h1] at h4
 have:((0:Int):Rat)<((xwh w D k:Int):Rat):=by simpa using h4
 exact Rat.intCast_lt_intCast.1 this
theorem prim_of (h1l:1<=mem.length) (hmem:∀ k,k ∈ mem ↔ k<n/\Cn (l.map fN) r k) (ok:∀ f ∈ l,okF n f) (hw:Sat l w) {D G:Nat} (hd:∀ k ∈ mem,(w k).den ∣ D) (xpos:∀ k ∈ mem,0<xwh w D k) (hG:∀ k ∈ mem,(G:Int) ∣ xwh w D k) (G2:∀ d:Int,(∀ k ∈ mem,d ∣ xwh w D k)->d ∣ G):0<G/\∃ T,Prim n l r T/\∀ k ∈ mem,xwh w D k=T k*G/\0<T k:=by
 have G0:0<G:=by
  have hm:=gd_mem (show 0<mem.length by omega)
  have h1:=hG _ hm
  have h2:=xpos _ hm
  rcases Nat.eq_zero_or_pos G with e | e
  ·rw [e] at h1
   have:=Int.zero_dvd.1 (by simpa using h1)
   omega
  ·exact e
 have hT:∀ k,∃ q:Int,k ∈ mem->xwh w D k=q*G/\0<q:=fun k=>by
  by_cases e:k ∈ mem
  ·obtain ⟨q,hq⟩:=hG k e
   have hp:=xpos k e
   refine ⟨q,fun _=>⟨by rw [hq,Int.mul_comm],?_⟩⟩
   rw [hq] at hp
   exact Int.pos_of_mul_pos_right hp (by omega)
  ·exact ⟨0,fun g=>absurd g e⟩
 obtain ⟨T,hT⟩:=Classical.axiomOfChoice hT
 have hP:Prim n l r T:=by
  refine ⟨fun k hk hc=>(hT k ((hmem k).2 ⟨hk,hc⟩)).2,fun f hf hc=>?_,fun d hd'=>?_⟩
  ·have ka:=(hmem _).2 ⟨(ok f hf).an,hc⟩
   have kb:=(hmem _).2 ⟨(ok f hf).bn,hc.step (.inl (List.mem_map.2 ⟨f,hf,rfl⟩))⟩
   have e1:=hw f hf
   have xa:=xwh_rat (hd _ ka)
   have xb:=xwh_rat (hd _ kb)
   have e2:f.Put*xwh w D f.A.toNat=f.Take*xwh w D f.B.toNat:=by
    refine Rat.intCast_inj.1 ?_
    push_cast
    rw [xa,xb,<- Rat.mul_assoc,e1,Rat.mul_assoc]
   rw [(hT _ ka).1,(hT _ kb).1,<- Int.mul_assoc,<- Int.mul_assoc] at e2
   exact Int.eq_of_mul_eq_mul_right (by omega) e2
  ·have:=G2 (d*G) fun k hm=>by
    obtain ⟨k1,k2⟩:=(hmem _).1 hm
    rw [(hT _ hm).1]
    exact Int.mul_dvd_mul (hd' _ k1 k2) (Int.dvd_refl _)
   obtain ⟨q,hq⟩:=this
   refine ⟨q,?_⟩
   have:(1:Int)*G=(d*q)*G:=by rw [Int.one_mul];exact hq.trans (by rw [Int.mul_assoc,Int.mul_comm (G:Int) q,<- Int.mul_assoc])
   exact Int.eq_of_mul_eq_mul_right (by omega) this
 exact ⟨G0,T,hP,hT⟩
theorem rep_out {D G sd sg:Nat} {zd zg:num_Z} (hn:n<=10) (hS:S<=4000) (hsd:sd<=50000) (hsg:S+sd<=sg) (hsg2:sg<=100000) (hml:mem.length<=10) (hmn:∀ k ∈ mem,k<n) (h45:gi r45 p74=mem.map toZ) (hpl:p.length=n) (hp:∀ k ∈ mem,QRep (gd p k) (w k)/\Sz S (w k)) (h73:p73.length=n) (hD:D<2 ^ sd) (hD0:0<D) (zD:ZRep zd D) (zG:ZRep zg G) (hG:0<G) (hG2:G<2 ^ sg) (hd:∀ k ∈ mem,(w k).den ∣ D) {T:Nat->Int} (hT:∀ k ∈ mem,xwh w D k=T k*G/\0<T k)
  (H3:(∃ k ∈ mem,64<T k)->P (.out ([],0,3))) (H:∀ o,(∀ k ∈ mem,T k<=64)->o.length=n->(∀ k,k<n->gd o k=if k ∈ mem then T k else gd p73 k)->P (.go (o,p74+1))):(clock_Repeats.j6 r45 p74 p zd p73 zg).run P:=by
 unfold clock_Repeats.j6
 refine W.loop_c (fun s:List Int×Int=>∃ t:Nat,s.2=t/\t<=mem.length/\s.1.length=n/\(∀ k,k<n->gd s.1 k=if k ∈ mem.take t then T k else gd p73 k)/\∀ k ∈ mem.take t,T k<=64) (fun s=>mem.length - s.2.toNat) ⟨0,rfl,Nat.zero_le _,h73,fun k hk=>by simp,fun k hk=>by simp at hk⟩ ?_
 rintro ⟨o,_⟩ P2 ⟨t,rfl,ht,h1,h2,h3⟩ hgo hbrk hout
 simp only at h1 h2 h3 hgo |-
 unfold clock_Repeats.l2
 rw [h45,List.length_map]
 refine W.run_if (fun c=>?_) (fun c=>hbrk _ ?_)
 ·have hm:=gd_mem (show t<mem.length by omega)
  have hkn:=hmn _ hm
  rw [toZ_at (by omega),gi_gd,Int.toNat_natCast]
  have htk:mem.take (t+1)=mem.take t ++ [gd mem t]:=by rw [List.take_add_one,List.getElem?_eq_getElem (by omega),gd_lt (by omega)];rfl
  generalize gd mem t=k at hm hkn htk |-
  obtain ⟨q1,q2⟩:=hp k hm
  obtain ⟨x1,x2⟩:=hT k hm
  have sz:(w k).num.natAbs<2 ^ S:=q2.1
  have dz':(w k).den<2 ^ S:=q2.2
  have dp:=(w k).den_pos
  have bx:((w k).num*(D:Int)).natAbs<2 ^ (S+sd):=bits_mul sz (by simpa using hD)
  have e1:((w k).num*(D:Int)).tdiv ((w k).den:Int)=xwh w D k:=by
   obtain ⟨e,he⟩:=hd k hm
   refine tdiv_of (by omega) ?_
   unfold xwh
   rw [he,Nat.mul_div_cancel_left _ dp]
   push_cast
   rw [Int.mul_assoc,Int.mul_comm (e:Int)]
  have bx2:(xwh w D k).natAbs<2 ^ (S+sd):=by
   unfold xwh
   refine Nat.lt_of_le_of_lt ?_ bx
   rw [Int.natAbs_mul,Int.natAbs_mul]
   exact Nat.mul_le_mul_left _ (by rw [Int.natAbs_natCast,Int.natAbs_natCast];exact Nat.div_le_self D _)
  have e2:(xwh w D k).tdiv (G:Int)=T k:=tdiv_of (by omega) x1
  refine W.req_i (by omega) (W.req_i (by omega) (W.req_i (by omega) (W.bd (num_Mul_run (s:=S) (t:=sd) q1.n zD (by omega) (by omega) sz (by simpa using hD) fun z1 hz1=>W.bd (clock_quo_run hz1 q1.d (s:=S+sd) (by omega) bx (bits_mono (by simpa using dz') (by omega)) (by omega) fun z2 hz2=>?_)))))
  rw [e1] at hz2
  refine W.bd (clock_quo_run hz2 zG (s:=sg) (by omega) (bits_mono bx2 hsg) (by simpa using hG2) (by omega) fun z3 hz3=>?_)
  rw [e2] at hz3
  refine W.bd (num_Int_run' (m:=64) (by omega) hz3 fun v b b1 b2=>W.run_if (fun cb=>W.req_i (by omega) (hgo _ ⟨t+1,by simp,by omega,by rw [List.length_set];exact h1,fun k' hk'=>?_,fun k' hk'=>?_⟩ (by simp;omega))) fun cb=>hout _ (H3 ⟨k,hm,by
   by_cases g:64<T k
   ·exact g
   ·exact absurd (b2.2 ⟨by omega,by omega⟩) cb⟩))
  ·simp only
   rw [gd_set,htk]
   by_cases e:k=k'
   ·rw [if_pos ⟨e,by omega⟩,if_pos (by simp [e]),b1 cb,e]
   ·rw [if_neg (fun g=>e g.1),h2 k' hk']
    have:(k' ∈ mem.take t ++ [k]) ↔ k' ∈ mem.take t:=by simp [Ne.symm e]
    simp only [this]
  ·rw [htk] at hk'
   rcases List.mem_append.1 hk' with hk' | hk'
   ·exact h3 k' hk'
   ·have:=(b2.1 cb).2
    rwa [show k'=k by simpa using hk']
 ·obtain rfl:t=mem.length:=by omega
  rw [List.take_length] at h3
  unfold clock_Repeats.j3
  exact H _ h3 h1 fun k hk=>by rw [h2 k hk,List.take_length]
theorem rep_set (hn:n<=10) (hS:S<=4000) (h1l:1<=mem.length) (hml:mem.length<=10) (hmem:∀ k,k ∈ mem ↔ k<n/\Cn (l.map fN) r k) (ok:∀ f ∈ l,okF n f) (hw:Sat l w) (hwp:∀ k,k<n->0<w k) (h45:gi r45 p74=mem.map toZ) (hpl:p.length=n) (hp:∀ k ∈ mem,QRep (gd p k) (w k)/\Sz S (w k)) (h73:p73.length=n)
  (H3:∀ T,Prim n l r T->(∃ k ∈ mem,64<T k)->P (.out ([],0,3))) (H:∀ T o,Prim n l r T->(∀ k ∈ mem,T k<=64)->o.length=n->(∀ k,k<n->gd o k=if k ∈ mem then T k else gd p73 k)->P (.go (o,p74+1))):(clock_Repeats.j4 r45 p74 p73 p).run P:=by
 have hmn:∀ k ∈ mem,k<n:=fun k hk=>((hmem k).1 hk).1
 unfold clock_Repeats.j4
 refine W.bd (num_I_run (by show _/\_;omega) fun one hone=>W.bd (num_I_run (by show _/\_;omega) fun nought hnought=>?_))
 refine W.loop_c (fun s:num_Z×Int=>∃ t D:Nat,s.2=t/\t<=mem.length/\ZRep s.1 D/\0<D/\D<2 ^ (S*t+1)/\∀ i,i<t->(w (gd mem i)).den ∣ D) (fun s=>mem.length - s.2.toNat) ⟨0,1,rfl,Nat.zero_le _,by simpa using hone,by omega,by simp,fun i hi=>by omega⟩ ?_
 rintro ⟨zd,_⟩ P1 ⟨t,D,rfl,ht,zD,D0,D1,D2⟩ hgo hbrk hout
 simp only at zD hgo |-
 unfold clock_Repeats.l4
 rw [h45,List.length_map]
 refine W.run_if (fun c=>?_) (fun c=>hbrk _ ?_)
 ·have hm:=gd_mem (show t<mem.length by omega)
  have hkn:=hmn _ hm
  rw [toZ_at (by omega),gi_gd]
  obtain ⟨q1,q2⟩:=hp _ hm
  have dz':(w (gd mem t)).den<2 ^ S:=q2.2
  have dp:=(w (gd mem t)).den_pos
  have hb:S*t<=S*10:=Nat.mul_le_mul_left _ (by omega)
  have bD:(D:Int).natAbs<2 ^ (S*10+1):=by rw [Int.natAbs_natCast];exact bits_mono D1 (by omega)
  have bd:((w (gd mem t)).den:Int).natAbs<2 ^ (S*10+1):=by rw [Int.natAbs_natCast];exact bits_mono dz' (by omega)
  refine W.req_i (by omega) (W.req_i (by omega) (W.req_i (by omega) (W.bd (num_Gcd_run zD q1.d (s:=S*10+1) (by omega) bD bd fun z1 hz1=>?_))))
  simp only [Int.natAbs_natCast] at hz1
  obtain ⟨l1,l2,l3,l4⟩:=lcm_step (D:=D) (d:=(w (gd mem t)).den) rfl D0 dp
  have g0:0<Nat.gcd D (w (gd mem t)).den:=Nat.gcd_pos_of_pos_left _ D0
  have gle:Nat.gcd D (w (gd mem t)).den<=(w (gd mem t)).den:=Nat.gcd_le_right _ dp
  refine W.bd (clock_quo_run q1.d hz1 (s:=S*10+1) (by omega) bd (by simp only [Int.natAbs_natCast];simp only [Int.natAbs_natCast] at bd;exact Nat.lt_of_le_of_lt gle bd) (by omega) fun z2 hz2=>?_)
  rw [tdiv_nat] at hz2
  have qle:=Nat.div_le_self (w (gd mem t)).den (Nat.gcd D (w (gd mem t)).den)
  refine W.bd (num_Mul_run zD hz2 (s:=S*10+1) (t:=S*10+1) (by omega) (by omega) bD (by simp only [Int.natAbs_natCast];simp only [Int.natAbs_natCast] at bd;exact Nat.lt_of_le_of_lt qle bd) fun z3 hz3=>?_)
  rw [<- Int.natCast_mul] at hz3
  refine hgo _ ⟨t+1,_,by simp,by omega,hz3,l1,?_,fun i hi=>?_⟩ (by simp;omega)
  ·refine Nat.lt_of_le_of_lt l4 ?_
   have:=Nat.mul_lt_mul'' D1 dz'
   rwa [<- Nat.pow_add,show S*t+1+S=S*(t+1)+1 by rw [Nat.mul_succ];omega] at this
  ·by_cases e:i=t
   ·rw [e];exact l3
   ·exact Nat.dvd_trans (D2 i (by omega)) l2
 have hd:∀ k ∈ mem,(w k).den ∣ D:=fun k hk=>by
  obtain ⟨i,hi,rfl⟩:=List.mem_iff_getElem.1 hk
  have:=D2 i (by omega)
  rwa [gd_lt hi] at this
 have hb:S*t<=S*10:=Nat.mul_le_mul_left _ (by omega)
 have bD:D<2 ^ (S*10+1):=bits_mono D1 (by omega)
 clear D1 D2
 have xpos:∀ k ∈ mem,0<xwh w D k:=fun k hk=>xwh_pos (hd k hk) D0 (hwp k (hmn k hk))
 unfold clock_Repeats.j5
 refine W.loop_c (fun s:num_Z×Int=>∃ t G:Nat,s.2=t/\t<=mem.length/\ZRep s.1 G/\G<2 ^ (S+(S*10+1))/\(∀ i,i<t->(G:Int) ∣ xwh w D (gd mem i))/\∀ d:Int,(∀ i,i<t->d ∣ xwh w D (gd mem i))->d ∣ G) (fun s=>mem.length - s.2.toNat) ⟨0,0,rfl,Nat.zero_le _,by simpa using hnought,Nat.two_pow_pos _,fun i hi=>by omega,fun d _=>⟨0,by simp⟩⟩ ?_
 rintro ⟨zg,_⟩ P2 ⟨t2,G,rfl,ht2,zG,bG,G1,G2⟩ hgo2 hbrk2 hout2
 simp only at zG hgo2 |-
 unfold clock_Repeats.l3
 rw [h45,List.length_map]
 refine W.run_if (fun c=>?_) (fun c=>hbrk2 _ ?_)
 ·have hm:=gd_mem (show t2<mem.length by omega)
  have hkn:=hmn _ hm
  rw [toZ_at (by omega),gi_gd]
  obtain ⟨q1,q2⟩:=hp _ hm
  have sz:(w (gd mem t2)).num.natAbs<2 ^ S:=q2.1
  have dz':(w (gd mem t2)).den<2 ^ S:=q2.2
  have dp:=(w (gd mem t2)).den_pos
  have bx:((w (gd mem t2)).num*(D:Int)).natAbs<2 ^ (S+(S*10+1)):=bits_mul sz (by simpa using bD)
  have e1:((w (gd mem t2)).num*(D:Int)).tdiv ((w (gd mem t2)).den:Int)=xwh w D (gd mem t2):=by
   obtain ⟨e,he⟩:=hd _ hm
   refine tdiv_of (by omega) ?_
   unfold xwh
   rw [he,Nat.mul_div_cancel_left _ dp]
   push_cast
   rw [Int.mul_assoc,Int.mul_comm (e:Int)]
  have bx2:(xwh w D (gd mem t2)).natAbs<2 ^ (S+(S*10+1)):=by
   unfold xwh
   refine Nat.lt_of_le_of_lt ?_ bx
   rw [Int.natAbs_mul,Int.natAbs_mul]
   exact Nat.mul_le_mul_left _ (by rw [Int.natAbs_natCast,Int.natAbs_natCast];exact Nat.div_le_self D _)
  have xp:=xpos _ hm
  refine W.req_i (by omega) (W.req_i (by omega) (W.req_i (by omega) (W.bd (num_Mul_run (s:=S) (t:=S*10+1) q1.n zD (by omega) (by omega) sz (by simpa using bD) fun z1 hz1=>W.bd (clock_quo_run hz1 q1.d (s:=S+(S*10+1)) (by omega) bx (bits_mono (by simpa using dz') (by omega)) (by omega) fun z2 hz2=>?_)))))
  rw [e1] at hz2
  refine W.bd (num_Gcd_run zG hz2 (s:=S+(S*10+1)) (by omega) (by simpa using bG) bx2 fun z3 hz3=>hgo2 _ ⟨t2+1,_,by simp,by omega,hz3,?_,fun i hi=>?_,fun d hd'=>?_⟩ (by simp;omega))
  ·exact Nat.lt_of_le_of_lt (Nat.gcd_le_right _ (by omega)) bx2
  ·rw [Int.natAbs_natCast]
   by_cases e:i=t2
   ·rw [e]
    exact Int.dvd_trans (Int.natCast_dvd_natCast.2 (Nat.gcd_dvd_right _ _)) (Int.natAbs_dvd.2 (Int.dvd_refl _))
   ·exact Int.dvd_trans (Int.natCast_dvd_natCast.2 (Nat.gcd_dvd_left _ _)) (G1 i (by omega))
  ·rw [Int.natAbs_natCast]
   have h1:=G2 d fun i hi=>hd' i (by omega)
   have h2:=hd' t2 (by omega)
   rw [<- Int.natAbs_dvd,Int.natCast_dvd_natCast]
   exact Nat.dvd_gcd (by have:=Int.natAbs_dvd_natAbs.2 h1;rwa [Int.natAbs_natCast] at this) (Int.natAbs_dvd_natAbs.2 h2)
 obtain rfl:t2=mem.length:=by omega
 have hG:∀ k ∈ mem,(G:Int) ∣ xwh w D k:=fun k hk=>by
  obtain ⟨i,hi,rfl⟩:=List.mem_iff_getElem.1 hk
  have:=G1 i hi
  rwa [gd_lt hi] at this
 obtain ⟨G0,T,hP,hT⟩:=prim_of h1l hmem ok hw hd xpos hG fun d hd'=>G2 d fun i hi=>hd' _ (gd_mem hi)
 exact rep_out hn hS (by omega) (Nat.le_refl _) (by omega) hml hmn h45 hpl hp h73 bD D0 zD zG G0 bG hd hT (H3 T hP) fun o h1 h2 h3=>H T o hP h1 h2 h3
end
end Go.Proofs.Ytgbmmbfminafnaa.E
