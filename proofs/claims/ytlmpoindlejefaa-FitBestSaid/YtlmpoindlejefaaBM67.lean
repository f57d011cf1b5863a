/- Joined. -/
import Derived.Test.YtlmpoindlejefaaBM62
import Derived.Test.YtlmpoindlejefaaBM65
set_option linter.unusedVariables false
set_option linter.unusedSimpArgs false
namespace Go.Proofs.Ytlmpoindlejefaa.E
open Go Go.RowKit
section
variable {P:zAQ} {l yl ll hl:List zAD} {bs:List Bool} {n S:Nat} {A:Nat->Nat->Rat} {V x y lo hi:Nat->Rat} {q:Rat} {dB:Int}
theorem zEb {R:Ctl (zAD×Int×Int) (List zAD)->Prop} {e tq:zAD} {t:Rat} {stop:Int} {k:Nat} {b:Bool} (hx:QL l n x) (hy:QL yl n y) (hk:k<n) (sx:Sz S (x k)) (sy:Sz 60000000 (y k)) (hS:S<=750000000000) (he:QRep e (edg lo hi x y k)) (se:Sz 961 (edg lo hi x y k)) (ht:QRep tq t) (st:Sz 1600000000000 t) (hb:b=true ↔ Crs lo hi x y k)
  (H1:∀ z,Crs lo hi x y k->bstp lo hi x y k<t->QRep z (bstp lo hi x y k)->Sz 1600000000000 (bstp lo hi x y k)->R (.go (z,k,k+1))) (H2:(Crs lo hi x y k->t<=bstp lo hi x y k)->R (.go (tq,stop,k+1))):(zAF.j7 k l yl e tq stop b).run R:=by
 have hxl:=hx.1
 have hyl:=hy.1
 unfold zAF.j7
 simp only [zCI]
 refine W.run_if (fun c=>?_) (fun c=>H2 fun h=>absurd (hb.2 h) c)
 have hc:=hb.1 c
 have g0:y k - x k≠0:=fun h=>hc.2 (by grind)
 have s1:=se.sub sx
 have s2:=sy.sub sx
 have s3:Sz 1600000000000 (bstp lo hi x y k):=(s1.div s2 g0).mono (by omega)
 exact W.req_i (by omega) (W.req_i (by omega) (W.req_i (by omega) (W.bd (zCS he (hx.2 k hk) (se.ok (by omega)) (sx.ok (by omega)) fun u hu=>W.bd (zCS (hy.2 k hk) (hx.2 k hk) (sy.ok (by omega)) (sx.ok (by omega)) fun v hv=>W.bd (zFV hu hv (s1.ok (by omega)) (s2.ok (by omega)) g0 fun w hw=>W.bd (zAz hw ht (s3.ok (by omega)) (st.ok (by omega)) fun r hr=>W.run_if (fun c2=>H1 w hc (hr.lt.1 c2) hw s3) (fun c2=>H2 fun _=>Rat.not_lt.1 fun h=>c2 (hr.lt.2 h)))))))))
theorem zHX {R:Ctl (zAD×Int×Int) (List zAD)->Prop} {e tq:zAD} {t:Rat} {stop:Int} {k:Nat} (hx:QL l n x) (hy:QL yl n y) (hlo:QL ll n lo) (hhi:QL hl n hi) (hk:k<n) (sx:Sz S (x k)) (sy:Sz 60000000 (y k)) (hS:S<=750000000000) (sl:Sz 961 (lo k)) (sh:Sz 961 (hi k)) (he:QRep e (edg lo hi x y k)) (se:Sz 961 (edg lo hi x y k)) (ht:QRep tq t) (st:Sz 1600000000000 t)
  (H1:∀ z,Crs lo hi x y k->bstp lo hi x y k<t->QRep z (bstp lo hi x y k)->Sz 1600000000000 (bstp lo hi x y k)->R (.go (z,k,k+1))) (H2:(Crs lo hi x y k->t<=bstp lo hi x y k)->R (.go (tq,stop,k+1))):(zAF.j6 k yl hl l tq stop ll e).run R:=by
 have hxl:=hx.1
 have hyl:=hy.1
 have hll:=hlo.1
 have hhl:=hhi.1
 unfold zAF.j6
 simp only [zCI]
 refine W.req_i (by omega) (W.req_i (by omega) (W.bd (zAz (hy.2 k hk) (hhi.2 k hk) (sy.ok (by omega)) (sh.ok (by omega)) fun r1 hr1=>W.run_if (fun c=>?_) (fun c=>?_))))
 ·have c':=hr1.gt.1 c
  refine W.req_i (by omega) (W.req_i (by omega) (W.bd (zAz (hy.2 k hk) (hx.2 k hk) (sy.ok (by omega)) (sx.ok (by omega)) fun r2 hr2=>W.run_if (fun c2=>?_) (fun c2=>?_))))
  ·exact zEb hx hy hk sx sy hS he se ht st ⟨fun _=>⟨.inl c',fun h=>c2 (hr2.eq.2 h)⟩,fun _=>rfl⟩ H1 H2
  ·exact zEb hx hy hk sx sy hS he se ht st ⟨fun h=>(nomatch h),fun h=>absurd (hr2.eq.1 (Classical.not_not.1 c2)) h.2⟩ H1 H2
 ·have c': ¬ hi k<y k:=fun h=>c (hr1.gt.2 h)
  refine W.req_i (by omega) (W.req_i (by omega) (W.bd (zAz (hy.2 k hk) (hlo.2 k hk) (sy.ok (by omega)) (sl.ok (by omega)) fun r2 hr2=>W.run_if (fun c2=>?_) (fun c2=>?_))))
  ·have c2':=hr2.lt.1 c2
   refine W.req_i (by omega) (W.req_i (by omega) (W.bd (zAz (hy.2 k hk) (hx.2 k hk) (sy.ok (by omega)) (sx.ok (by omega)) fun r3 hr3=>W.run_if (fun c3=>?_) (fun c3=>?_))))
   ·exact zEb hx hy hk sx sy hS he se ht st ⟨fun _=>⟨.inr c2',fun h=>c3 (hr3.eq.2 h)⟩,fun _=>rfl⟩ H1 H2
   ·exact zEb hx hy hk sx sy hS he se ht st ⟨fun h=>(nomatch h),fun h=>absurd (hr3.eq.1 (Classical.not_not.1 c3)) h.2⟩ H1 H2
  ·have c2': ¬ y k<lo k:=fun h=>c2 (hr2.lt.2 h)
   exact zEb hx hy hk sx sy hS he se ht st ⟨fun h=>(nomatch h),fun h=>h.1.elim (fun h=>absurd h c') (fun h=>absurd h c2')⟩ H1 H2
theorem zIS {R:Ctl (List zAD×List Bool) (List zAD)->Prop} {one:zAD} (hn:P.sums.n=n) (hx:QL l n x) (hy:QL yl n y) (hlo:QL ll n lo) (hhi:QL hl n hi) (hb:bs.length=n) (bd:∀ i,i<n->lo i<=x i/\x i<=hi i) (sx:∀ i,i<n->Sz S (x i)) (sy:∀ i,i<n->Sz 60000000 (y i)) (hS:S<=750000000000) (sl:∀ i,i<n->Sz 961 (lo i)) (sh:∀ i,i<n->Sz 961 (hi i)) (h1:QRep one 1)
  (H:∀ tq t stop,QRep tq t->Sz 1600000000000 t->MinS (gd bs) lo hi x y n t stop->(zAF.j4 P yl l bs tq stop).run R) :
  (W.bind (W.loop (fun (s:zAD×Int×Int)=>zAF.l5 P bs hl yl l ll s.1 s.2.1 s.2.2) (one,(-1),0)) (Lp.on (fun s=>zAF.j4 P yl l bs s.1 s.2.1) (fun r=>W.ret (.out r)))).run R:=by
 have hxl:=hx.1
 have hyl:=hy.1
 have hll:=hlo.1
 have hhl:=hhi.1
 refine W.loop_c (fun s:zAD×Int×Int=>∃ (k:Nat) (t:Rat),s.2.2=k/\k<=n/\QRep s.1 t/\Sz 1600000000000 t/\MinS (gd bs) lo hi x y k t s.2.1) (fun s=>n - s.2.2.toNat) ⟨0,1,rfl,Nat.zero_le _,h1,Sz.one.mono (by omega),.inl ⟨rfl,rfl,fun i hi=>by omega⟩⟩ ?_
 rintro ⟨tq,stop,_⟩ P1 ⟨k,t,rfl,hk,k1,k2,k3⟩ hgo hbrk hout
 simp only at k1 k3 hgo |-
 unfold zAF.l5
 rw [hn]
 refine W.run_if (fun c=>W.req_i (by omega) ?_) (fun c=>hbrk _ (by obtain rfl:k=n:=(by omega);exact H _ _ _ k1 k2 k3))
 have hkn:k<n:=by omega
 simp only [zCI]
 refine W.run_if (fun f=>hgo _ ⟨k+1,t,by simp,by omega,k1,k2,k3.keep (bd k hkn) fun f'=>absurd f (by simp [f'])⟩ (by simp;omega)) (fun f=>?_)
 have f':gd bs k=false:=by simpa using f
 refine W.req_i (by omega) (W.req_i (by omega) (W.req_i (by omega) (W.bd (zAz (hy.2 k hkn) (hx.2 k hkn) ((sy k hkn).ok (by omega)) ((sx k hkn).ok (by omega)) fun r hr=>W.run_if (fun c2=>W.req_i (by omega) ?_) (fun c2=>?_)))))
 ·have e:edg lo hi x y k=lo k:=if_pos (hr.lt.1 c2)
  exact zHX hx hy hlo hhi hkn (sx k hkn) (sy k hkn) hS (sl k hkn) (sh k hkn) (e ▸ hlo.2 k hkn) (e ▸ sl k hkn) k1 k2 (fun z c3 c4 c5 c6=>hgo _ ⟨k+1,_,by simp,by omega,c5,c6,k3.new f' c3 c4⟩ (by simp;omega)) (fun c3=>hgo _ ⟨k+1,t,by simp,by omega,k1,k2,k3.keep (bd k hkn) fun _=>c3⟩ (by simp;omega))
 ·have e:edg lo hi x y k=hi k:=if_neg fun h=>c2 (hr.lt.2 h)
  exact zHX hx hy hlo hhi hkn (sx k hkn) (sy k hkn) hS (sl k hkn) (sh k hkn) (e ▸ hhi.2 k hkn) (e ▸ sh k hkn) k1 k2 (fun z c3 c4 c5 c6=>hgo _ ⟨k+1,_,by simp,by omega,c5,c6,k3.new f' c3 c4⟩ (by simp;omega)) (fun c3=>hgo _ ⟨k+1,t,by simp,by omega,k1,k2,k3.keep (bd k hkn) fun _=>c3⟩ (by simp;omega))
theorem zIR {R:Ctl (List zAD×List Bool) (List zAD)->Prop} {tq:zAD} {t:Rat} {stop:Int} (hn:P.sums.n=n) (hx:QL l n x) (hy:QL yl n y) (sx:∀ i,i<n->Sz S (x i)) (sy:∀ i,i<n->Sz 60000000 (y i)) (hS:S<=750000000000) (ht:QRep tq t) (st:Sz 1600000000000 t)
  (H:∀ o,QL o n (fun i=>x i+t*(y i - x i))->(zAF.j5 stop bs o).run R):(zAF.j4 P yl l bs tq stop).run R:=by
 have hyl:=hy.1
 unfold zAF.j4
 refine W.loop_c (fun s:List zAD×Int=>∃ k:Nat,s.2=k/\k<=n/\QL s.1 n (fun i=>if i<k then x i+t*(y i - x i) else x i)) (fun s=>n - s.2.toNat) ⟨0,rfl,Nat.zero_le _,hx.congr fun i _=>by rw [if_neg (by omega)]⟩ ?_
 rintro ⟨o,_⟩ P1 ⟨k,rfl,hk,h1⟩ hgo hbrk hout
 simp only at h1 hgo |-
 have hol:=h1.1
 unfold zAF.l4
 simp only [hn,zCI]
 refine W.run_if (fun c=>?_) (fun c=>hbrk _ (H o (h1.congr fun i hi=>by rw [if_pos (by omega)])))
 have hkn:k<n:=by omega
 have cell:=h1.2 k hkn
 dsimp only at cell
 rw [if_neg (Nat.lt_irrefl _)] at cell
 have s1:=(sy k hkn).sub (sx k hkn)
 have s2:=st.mul s1
 refine W.req_i (by omega) (W.req_i (by omega) (W.req_i (by omega) (W.bd (zCS (hy.2 k hkn) cell ((sy k hkn).ok (by omega)) ((sx k hkn).ok (by omega)) fun u hu=>W.bd (zBh ht hu (st.ok (by omega)) (s1.ok (by omega)) fun v hv=>W.bd (zCB cell hv ((sx k hkn).ok (by omega)) (s2.ok (by omega)) fun w hw=>W.req_i (by omega) (hgo _ ⟨k+1,by simp,by omega,(h1.set hw).congr fun i hi=>?_⟩ (by simp;omega))))))))
 rw [Int.toNat_natCast]
 by_cases e:i=k
 ·subst e;simp
 ·have:(i<k+1) ↔ (i<k):=by omega
  simp only [if_neg e,this]
theorem zHY {R:Ctl (List zAD×List Bool) (List zAD)->Prop} {d:Int} {x0:Nat->Rat} {ini:Prop} (hS:Sums P.sums n A V q) (hn:n<=12) (hp:PD n A) (z:Small 973 n A V q) (d0:d≠0) (d1:Bt 12560 d) (dA:∀ i k,i<n->k<n->Fd d 12572 (A i k)) (dV:∀ i,i<n->Fd d 12572 (V i)) (bl:Bnd n dB lo) (bh:Bnd n dB hi) (hlo:QL ll n lo) (hhi:QL hl n hi)
  (hx:QL l n x) (hb:bs.length=n) (hI:Inn n 60000000 A V lo hi ini x0 x (gd bs))
  (H:∀ l' bs' x',QL l' n x'->bs'.length=n->Oud n 60000000 A V lo hi ini x0 x' (gd bs')->(zAF.j2 P ll hl l' bs').run R):(zAF.l1 P hl ll l bs).run R:=by
 unfold zAF.l1
 refine W.loop_c (fun s:List zAD×List Bool=>∃ x:Nat->Rat,QL s.1 n x/\s.2.length=n/\Inn n 60000000 A V lo hi ini x0 x (gd s.2)) (fun s=>fcnt (gd s.2) n) ⟨x,hx,hb,hI⟩ ?_
 clear hx hb hI
 rintro ⟨l,bs⟩ P1 ⟨x,hx,hb,hI⟩ hgo hbrk hout
 simp only at hx hb hI hgo |-
 unfold zAF.l3
 have sl:∀ i,i<n->Sz 961 (lo i):=fun i hi=>(bl.2.2 i hi).sz bl.1 bl.2.1
 have sh:∀ i,i<n->Sz 961 (hi i):=fun i hi=>(bh.2.2 i hi).sz bh.1 bh.2.1
 obtain ⟨k,hk,cx⟩:=hI.cd
 have hsz:=szK_12 (T:=60000000) (k:=k) (by omega) (by omega)
 refine W.bd (zHo hS hn hp z hx hb d0 d1 dA dV bl.1 bl.2.1 (fun i hi' f=>?_) fun yl y hy fm cy=>W.bd (zCr (by show _/\_;omega) fun one h1=>?_))
 ·rcases hI.fx i hi' f with e | e
  ·rw [e];exact bl.2.2 i hi'
  ·rw [e];exact bh.2.2 i hi'
 refine zIS hS.hn hx hy hlo hhi hb hI.bd (fun i hi'=>cx.sz hi') (fun i hi'=>cy.sz hi') hsz sl sh (by simpa using h1) fun tq t stop t1 t2 t3=>zIR hS.hn hx hy (fun i hi'=>cx.sz hi') (fun i hi'=>cy.sz hi') hsz t1 t2 fun o ho=>?_
 unfold zAF.j5
 rcases t3 with ⟨rfl,rfl,t3⟩ | ⟨s,hs,rfl,fs,cs,rfl,t3⟩
 ·rw [if_pos (by omega)]
  exact hbrk _ (H _ _ _ ho hb (hI.fin hp fm cy t3))
 ·rw [if_neg (by omega)]
  refine W.req_i (by omega) ?_
  simp only [Int.toNat_natCast]
  obtain ⟨i1,i2⟩:=hI.go (φ':=gd (bs.set s true)) hp (Nat.le_refl _) bl bh fm cy hs fs cs t3 fun i hi'=>by
   rw [zCX]
   by_cases e:i=s
   ·rw [if_pos ⟨e.symm,by omega⟩,if_pos e]
   ·rw [if_neg (fun h=>e h.1.symm),if_neg e]
  exact hgo _ ⟨_,ho,by simp [hb],i1⟩ i2
theorem zHs {R:Ctl (List zAD×List Bool) (List zAD)->Prop} (hS:Sums P.sums n A V q) (hn:n<=12) (z:Small 973 n A V q) (sl:∀ i,i<n->Sz 961 (lo i)) (sh:∀ i,i<n->Sz 961 (hi i)) (hlo:QL ll n lo) (hhi:QL hl n hi) (hx:QL l n x) (hb:bs.length=n) (sx:∀ i,i<n->Sz 60000000 (x i))
  (H0:(∀ i,i<n->¬ Pick n A V lo hi x (gd bs) i)->R (.out l)) (H1:∀ j,j<n->Pick n A V lo hi x (gd bs) j->R (.go (l,bs.set j false))):(zAF.j2 P ll hl l bs).run R:=by
 have hxl:=hx.1
 have hll:=hlo.1
 have hhl:=hhi.1
 unfold zAF.j2
 refine W.bd (zEP hS hn hx z (fun i hi'=>(sx i hi').mono (by omega)) fun g hg=>?_)
 have hgl:=hg.1
 refine W.loop_c (fun s:Int×Int=>∃ k:Nat,s.1= -1/\s.2=k/\k<=n/\∀ i,i<k->¬ Pick n A V lo hi x (gd bs) i) (fun s=>n - s.2.toNat) ⟨0,rfl,rfl,Nat.zero_le _,fun i hi=>by omega⟩ ?_
 rintro ⟨_,_⟩ P1 ⟨k,rfl,rfl,hk,k1⟩ hgo hbrk hout
 simp only at hgo |-
 unfold zAF.l2
 simp only [hS.hn,zCI]
 refine W.run_if (fun c=>W.req_i (by omega) ?_) (fun c=>hbrk _ ?_)
 ·have hkn:k<n:=by omega
  have no: ¬ Pick n A V lo hi x (gd bs) k->P1 (.go (-1,(k:Int)+1)):=fun h=>hgo _ ⟨k+1,rfl,by simp,by omega,fun i hi'=>by
   by_cases e:i=k
   ·rw [e];exact h
   ·exact k1 i (by omega)⟩ (by simp;omega)
  have yes:Pick n A V lo hi x (gd bs) k->P1 (.brk ((k:Int),(k:Int))):=fun h=>hbrk _ (by
   unfold zAF.j3
   rw [if_neg (by omega)]
   refine W.req_i (by omega) ?_
   simp only [Int.toNat_natCast]
   exact H1 k hkn h)
  have s1:=(sx k hkn).ok (show 60000000<=8796093022208 by omega)
  have s2:=(sl k hkn).ok (show 961<=8796093022208 by omega)
  have s3:=(sh k hkn).ok (show 961<=8796093022208 by omega)
  refine W.run_if (fun f=>?_) (fun f=>no fun h=>f h.1)
  refine W.req_i (by omega) (W.req_i (by omega) (W.bd (zAz (hlo.2 k hkn) (hhi.2 k hkn) s2 s3 fun r1 hr1=>W.run_if (fun c1=>W.req_i (by omega) (W.req_i (by omega) (W.bd (zAz (hx.2 k hkn) (hlo.2 k hkn) s1 s2 fun r2 hr2=>?_)))) (fun c1=>no fun h=>c1 (hr1.lt.2 h.2.1)))))
  have hlt:=hr1.lt.1 c1
  have up:(¬ (x k=lo k/\slp n A V x k<0))->(W.req ((0:Int)<=(k:Int)/\(k:Int)<(l.length:Int)) (W.req ((0:Int)<=(k:Int)/\(k:Int)<(hl.length:Int)) (W.bind (zBJ.f (gd l k) (gd hl k)) (fun r363=>if r363=0 then (W.req ((0:Int)<=(k:Int)/\(k:Int)<(g.length:Int)) (W.bind (zB9.f (gd g k)) (fun r389=>if r389>0 then (W.ret (.brk ((k:Int),(k:Int)))) else (W.ret (.go ((-1:Int),((k:Int)+1))))))) else (W.ret (.go ((-1:Int),((k:Int)+1)))))))).run P1:=fun h1=>
   W.req_i (by omega) (W.req_i (by omega) (W.bd (zAz (hx.2 k hkn) (hhi.2 k hkn) s1 s3 fun r3 hr3=>W.run_if (fun c3=>W.req_i (by omega) (W.bd (zCY (hg.2 k hkn) fun r4 hr4=>W.run_if (fun c4=>yes ⟨f,hlt,.inr ⟨hr3.eq.1 c3,hr4.gt.1 c4⟩⟩) (fun c4=>no fun h=>h.2.2.elim h1 fun h=>c4 (hr4.gt.2 h.2))))) (fun c3=>no fun h=>h.2.2.elim h1 fun h=>c3 (hr3.eq.2 h.1)))))
  refine W.run_if (fun c2=>W.req_i (by omega) (W.bd (zCY (hg.2 k hkn) fun r4 hr4=>W.run_if (fun c4=>yes ⟨f,hlt,.inl ⟨hr2.eq.1 c2,hr4.lt.1 c4⟩⟩) (fun c4=>up fun h=>c4 (hr4.lt.2 h.2))))) (fun c2=>up fun h=>c2 (hr2.eq.2 h.1))
 ·obtain rfl:k=n:=(by omega)
  unfold zAF.j3
  rw [if_pos (by omega)]
  exact H0 k1
theorem zGu {Q:List zAD->Prop} {d:Int} (hS:Sums P.sums n A V q) (hn:n<=12) (hp:PD n A) (z:Small 973 n A V q) (d0:d≠0) (d1:Bt 12560 d) (dA:∀ i k,i<n->k<n->Fd d 12572 (A i k)) (dV:∀ i,i<n->Fd d 12572 (V i)) (bl:Bnd n dB lo) (bh:Bnd n dB hi) (hle:∀ i,i<n->lo i<=hi i) (hlo:QL ll n lo) (hhi:QL hl n hi)
  (H:∀ o x,QL o n x->KKT n A V lo hi x->CdV n 60000000 x->Q o):(zAF.f P ll hl).run Q:=by
 have hll:=hlo.1
 obtain ⟨μ,μ0,μ1⟩:=zI3 hp V lo hi 0
 have sl:∀ i,i<n->Sz 961 (lo i):=fun i hi=>(bl.2.2 i hi).sz bl.1 bl.2.1
 have sh:∀ i,i<n->Sz 961 (hi i):=fun i hi=>(bh.2.2 i hi).sz bh.1 bh.2.1
 unfold zAF.f
 refine W.bd (zDU (by omega) ?_)
 rw [hS.hn,Int.toNat_natCast]
 refine W.req_i (by omega) ?_
 refine W.loop_c (fun s:List Bool×Int=>∃ k:Nat,s.2=k/\k<=n/\s.1.length=n/\∀ i,i<k->gd s.1 i=true) (fun s=>n - s.2.toNat) ⟨0,rfl,Nat.zero_le _,by simp,fun i hi=>by omega⟩ ?_
 rintro ⟨bs,_⟩ P1 ⟨k,rfl,hk,k1,k2⟩ hgo hbrk hout
 simp only at k1 k2 hgo |-
 unfold zAF.l6
 rw [hS.hn,Int.toNat_natCast,List.length_replicate]
 refine W.run_if (fun c=>W.req_i (by omega) (hgo _ ⟨k+1,by simp,by omega,by simp [k1],fun i hi'=>?_⟩ (by simp;omega))) (fun c=>hbrk _ ?_)
 ·simp only [Int.toNat_natCast]
  rw [zCX]
  by_cases e:k=i
  ·rw [if_pos ⟨e,by omega⟩]
  ·rw [if_neg (by omega)];exact k2 i (by omega)
 obtain rfl:k=n:=(by omega)
 clear hgo hbrk hout
 unfold zAF.j1
 refine W.loop_g (fun (s:List zAD×List Bool) m=>∃ x:Nat->Rat,QL s.1 k x/\s.2.length=k/\Ots k 60000000 A V lo hi μ x (gd s.2) m) ⟨μ lo+1,lo,hlo,k1,fun i hi'=>⟨Rat.le_refl,hle i hi'⟩,fun i _ _=>.inl rfl,⟨dB,bl.1,bl.2.1.mono (by omega),fun i hi'=>(bl.2.2 i hi').mono (by omega)⟩,.inl ⟨k2,rfl⟩⟩ ?_
 rintro ⟨l,bs⟩ m P2 ⟨x,hx,hb,hO⟩ hgo hbrk hout
 simp only at hx hb hO hgo |-
 refine zHY hS hn hp z d0 d1 dA dV bl bh hlo hhi hx hb (hO.inn hn) fun l' bs' x' hx' hb' hD=>?_
 refine zHs hS hn z sl sh hlo hhi hx' hb' (fun i hi'=>hD.cd.sz hi') (fun hno=>hout _ (H _ _ hx' (hD.kkt hno) hD.cd)) (fun j hj pk=>?_)
 obtain ⟨m',o1,o2⟩:=hD.next (φ':=gd (bs'.set j false)) μ0 μ1 hO hj pk fun i hi'=>by
  rw [zCX]
  by_cases e:i=j
  ·rw [if_pos ⟨e.symm,by omega⟩,if_pos e]
  ·rw [if_neg (fun h=>e h.1.symm),if_neg e]
 exact hgo _ m' ⟨x',hx',by simp [hb'],o1⟩ o2
end
end Go.Proofs.Ytlmpoindlejefaa.E
namespace Go.Proofs.Ytlmpoindlejefaa.E
open Go Go.RowKit
section
variable {P:zAQ} {ll hl yl gl:List zAD} {n:Nat} {A:Nat->Nat->Rat} {V lo hi x y:Nat->Rat} {q:Rat}
theorem zE3 {Q:Int->Prop} (hS:Sums P.sums n A V q) (hn:n<=12) (z:Small 973 n A V q) (hlo:QL ll n lo) (hhi:QL hl n hi) (sl:∀ i,i<n->Sz 961 (lo i)) (sh:∀ i,i<n->Sz 961 (hi i))
  (H1:(∃ i,i<n/\hi i<lo i)->Q 1) (H4:(∀ i,i<n->lo i<=hi i)->(∀ x,¬ Sol n A V x)->Q 4) (H0:(∀ i,i<n->lo i<=hi i)->(∃ x,Sol n A V x)->Q 0):(zBU.f P ll hl).run Q:=by
 have hll:=hlo.1
 have hhl:=hhi.1
 unfold zBU.f
 refine W.loop_c (fun s:Int=>∃ k:Nat,s=k/\k<=n/\∀ i,i<k->lo i<=hi i) (fun s=>n - s.toNat) ⟨0,rfl,Nat.zero_le _,fun i hi=>by omega⟩ ?_
 rintro _ P1 ⟨k,rfl,hk,k1⟩ hgo hbrk hout
 unfold zBU.l1
 simp only [zCI,hll]
 refine W.run_if (fun c=>?_) (fun c=>hbrk _ ?_)
 ·have hkn:k<n:=by omega
  refine W.req_i (by omega) (W.req_i (by omega) (W.bd (zAz (hlo.2 k hkn) (hhi.2 k hkn) ((sl k hkn).ok (by omega)) ((sh k hkn).ok (by omega)) fun r hr=>W.run_if (fun c2=>hout _ (H1 ⟨k,hkn,hr.gt.1 c2⟩)) (fun c2=>hgo _ ⟨k+1,by simp,by omega,fun i hi'=>?_⟩ (by omega)))))
  by_cases e:i=k
  ·rw [e];exact Rat.not_lt.1 fun h=>c2 (hr.gt.2 h)
  ·exact k1 i (by omega)
 ·obtain rfl:k=n:=(by omega)
  unfold zBU.j1
  refine W.bd (zEO hS.hm hS.hv (by omega) (by have:=zIh (Nat.le_refl 973) hn;omega) z.a z.v (fun out x e1 e2 e3=>?_) (fun u u1 u2=>?_))
  ·rw [if_pos rfl];exact H0 k1 ⟨x,e2⟩
  ·rw [if_neg (by simp)]
   refine H4 k1 fun x hx=>?_
   obtain ⟨g,hg,hu⟩:=u1
   have s1:=(hx x).2 fun i _=>rfl
   have s2:=(hx (fun i=>x i+u i)).1 fun i hi=>by
    have a:=s1 i hi
    have b:=u2 i hi
    unfold dz at a b |-
    rw [zAW (g:=fun j=>A i j*x j+A i j*u j) fun j _=>by grind,zER,a,b,Rat.add_zero]
   have:=s2 g hg
   exact absurd (show u g=0 by grind) hu
def mark (n:Nat) (A:Nat->Nat->Rat) (V lo hi x:Nat->Rat) (i:Nat):Int:=if x i=lo i/\0<slp n A V x i then -1 else if x i=hi i/\slp n A V x i<0 then 1 else 0
def marksL (n:Nat) (A:Nat->Nat->Rat) (V lo hi x:Nat->Rat):List Int:=(List.range n).map (mark n A V lo hi x)
theorem zH5 {l:List Int} (hn:n<=l.length) (h:∀ i,i<n->gd l i=mark n A V lo hi x i):l.take n=marksL n A V lo hi x:=by
 unfold marksL
 apply List.ext_getElem
 ·simp;omega
 ·intro i h1 h2
  have hin:i<n:=by simp at h2;omega
  have:=h i hin
  rw [zHN (by omega)] at this
  simp [this]
theorem zFg {l:List Int} {Q:List Int->Prop} (hl:l.length<=1000000) (H:Q l):(zCW.f l).run Q:=by
 unfold zCW.f
 intro b hb
 refine W.run_if (fun c=>?_) (fun c=>W.req_i (by simp;omega) (by simpa [W.ret_r] using H))
 rw [W.ret_r,<- hb c]
 exact H
abbrev WTold:=List zAC×zAC×List Int×Int
theorem zHW {R:WTold->Prop} {t:Told} (hn:P.sums.n=n) (hn12:n<=12) (hx:QL yl n x) (hg:QL gl n (slp n A V x)) (hlo:QL ll n lo) (hhi:QL hl n hi) (sx:∀ i,i<n->Sz 60000000 (x i)) (sl:∀ i,i<n->Sz 961 (lo i)) (sh:∀ i,i<n->Sz 961 (hi i)) (H:R (t.1,t.2.1,marksL n A V lo hi x,0)) :
  (W.bind (W.loop (fun (s:(List Int)×Int)=>zAp.l1 gl yl ll hl s.1 s.2) ((List.replicate 12 (0:Int)),0)) (Lp.on (fun s=>zAp.j1 P t s.1) (fun r=>W.ret r))).run R:=by
 have hxl:=hx.1
 have hgl:=hg.1
 have hll:=hlo.1
 have hhl:=hhi.1
 refine W.loop_c (fun s:List Int×Int=>∃ k:Nat,s.2=k/\k<=n/\s.1.length=12/\∀ i,i<n->gd s.1 i=if i<k then mark n A V lo hi x i else 0) (fun s=>n - s.2.toNat) ⟨0,rfl,Nat.zero_le _,by simp,fun i hi=>by rw [if_neg (by omega)];exact gd_rep (by omega)⟩ ?_
 rintro ⟨ms,_⟩ P1 ⟨k,rfl,hk,k1,k2⟩ hgo hbrk hout
 simp only at k1 k2 hgo |-
 unfold zAp.l1
 simp only [zCI,hgl]
 refine W.run_if (fun c=>?_) (fun c=>hbrk _ ?_)
 ·have hkn:k<n:=by omega
  have s1:=(sx k hkn).ok (show 60000000<=8796093022208 by omega)
  have s2:=(sl k hkn).ok (show 961<=8796093022208 by omega)
  have s3:=(sh k hkn).ok (show 961<=8796093022208 by omega)
  have put:∀ v:Int,mark n A V lo hi x k=v->P1 (.go (ms.set k v,(k:Int)+1)):=fun v hv=>hgo _ ⟨k+1,by simp,by omega,by simp [k1],fun i hi'=>by
   simp only
   rw [zCX]
   by_cases e:k=i
   ·subst e;rw [if_pos ⟨rfl,by omega⟩,if_pos (by omega),hv]
   ·have:(i<k+1) ↔ (i<k):=by omega
    rw [if_neg (by omega),k2 i hi'];simp only [this]⟩ (by simp;omega)
  have pass:mark n A V lo hi x k=0->P1 (.go (ms,(k:Int)+1)):=fun hv=>hgo _ ⟨k+1,by simp,by omega,k1,fun i hi'=>by
   rw [k2 i hi']
   by_cases e:i=k
   ·subst e;rw [if_neg (by omega),if_pos (by omega),hv]
   ·have:(i<k+1) ↔ (i<k):=by omega
    simp only [this]⟩ (by simp;omega)
  have low: ¬ (x k=lo k/\0<slp n A V x k)->(zAp.j2 (k:Int) ms yl hl gl false).run P1:=fun h=>by
   unfold zAp.j2
   rw [if_neg (by simp)]
   simp only [zCI]
   refine W.req_i (by omega) (W.req_i (by omega) (W.bd (zAz (hx.2 k hkn) (hhi.2 k hkn) s1 s3 fun r3 hr3=>W.run_if (fun c3=>W.bd (zCY (hg.2 k hkn) fun r4 hr4=>W.run_if (fun c4=>W.req_i (by omega) ?_) (fun c4=>?_))) (fun c3=>?_))))
   ·exact put 1 (by unfold mark;rw [if_neg h,if_pos ⟨hr3.eq.1 c3,hr4.lt.1 c4⟩])
   ·exact pass (by unfold mark;rw [if_neg h,if_neg fun h=>c4 (hr4.lt.2 h.2)])
   ·exact pass (by unfold mark;rw [if_neg h,if_neg fun h=>c3 (hr3.eq.2 h.1)])
  refine W.req_i (by omega) (W.req_i (by omega) (W.req_i (by omega) (W.bd (zAz (hx.2 k hkn) (hlo.2 k hkn) s1 s2 fun r1 hr1=>W.run_if (fun c1=>W.bd (zCY (hg.2 k hkn) fun r2 hr2=>W.run_if (fun c2=>?_) (fun c2=>low fun h=>c2 (hr2.gt.2 h.2)))) (fun c1=>low fun h=>c1 (hr1.eq.2 h.1))))))
  unfold zAp.j2
  rw [if_pos rfl]
  exact W.req_i (by omega) (put (-1) (by unfold mark;rw [if_pos ⟨hr1.eq.1 c1,hr2.gt.1 c2⟩]))
 ·obtain rfl:k=n:=(by omega)
  show (zAp.j1 P t ms).run R
  unfold zAp.j1
  rw [hn]
  refine W.req_i (by omega) (W.bd (zFg (by simp;omega) ?_))
  rw [Int.toNat_natCast,zH5 (by omega) fun i hi'=>by rw [k2 i hi',if_pos hi']]
  exact H
def okC (n:Nat) (A:Nat->Nat->Rat) (V lo hi y:Nat->Rat) (i:Nat):Prop:=lo i<=y i/\y i<=hi i/\(lo i=hi i\/lo i≠hi i/\(y i=lo i/\0<=slp n A V y i\/y i≠lo i/\(y i=hi i/\slp n A V y i<=0\/y i≠hi i/\slp n A V y i=0)))
theorem KKT.okC (h:KKT n A V lo hi y) {i:Nat} (hi':i<n):okC n A V lo hi y i:=by
 obtain ⟨h1,h2,h3⟩:=h i hi'
 refine ⟨h1,h2,?_⟩
 by_cases e:lo i=hi i
 ·exact .inl e
 ·refine .inr ⟨e,?_⟩
  by_cases e1:y i=lo i
  ·refine .inl ⟨e1,?_⟩
   rcases h3 with a | a | ⟨_,a⟩ | ⟨a,_⟩ <;> grind
  ·refine .inr ⟨e1,?_⟩
   by_cases e2:y i=hi i
   ·refine .inl ⟨e2,?_⟩
    rcases h3 with a | a | ⟨a,_⟩ | ⟨_,a⟩ <;> grind
   ·refine .inr ⟨e2,?_⟩
    rcases h3 with a | a | ⟨a,_⟩ | ⟨a,_⟩ <;> grind
theorem zIP {R:Ctl Int (Bool×Int×Int)->Prop} {k:Nat} {ra rc:Int} {b:Bool} (hg:QL gl n (slp n A V y)) (hlo:QL ll n lo) (hhi:QL hl n hi) (hk:k<n) (sl:Sz 961 (lo k)) (sh:Sz 961 (hi k)) (ha:Tri ra (y k) (lo k)) (hc:Tri rc (y k) (hi k)) (hb:b=true ↔ lo k<=y k/\y k<=hi k)
  (H:∀ b',(b'=true ↔ okC n A V lo hi y k)->(zAZ.j4 (k:Int) b').run R):(zAZ.j3 (k:Int) ll hl ra gl rc b).run R:=by
 have hll:=hlo.1
 have hhl:=hhi.1
 unfold zAZ.j3
 simp only [zCI]
 have no: ¬ b=true->∀ b':Bool,b'=false->(zAZ.j4 (k:Int) b').run R:=fun h b' e=>H _ ⟨fun h2=>(by rw [e] at h2;cases h2),fun h2=>absurd (hb.2 ⟨h2.1,h2.2.1⟩) h⟩
 refine W.req_i (by omega) (W.req_i (by omega) (W.bd (zAz (hlo.2 k hk) (hhi.2 k hk) (sl.ok (by omega)) (sh.ok (by omega)) fun r hr=>W.run_if (fun c1=>?_) (fun c1=>W.run_if (fun c2=>?_) (fun c2=>W.run_if (fun c3=>?_) (fun c3=>?_))))))
 ·have e:=hr.eq.1 c1
  exact H _ ⟨fun h=>⟨(hb.1 h).1,(hb.1 h).2,.inl e⟩,fun h=>hb.2 ⟨h.1,h.2.1⟩⟩
 ·have e:lo k≠hi k:=fun h=>c1 (hr.eq.2 h)
  have e2:=ha.eq.1 c2
  refine W.run_if (fun c=>W.bd (zCY (hg.2 k hk) fun s hs=>H _ ?_)) (fun c=>no c _ rfl)
  rw [decide_eq_true_iff,hs.ge]
  exact ⟨fun h=>⟨(hb.1 c).1,(hb.1 c).2,.inr ⟨e,.inl ⟨e2,h⟩⟩⟩,fun h=>by
   rcases h.2.2 with a | ⟨_,a | ⟨a,_⟩⟩
   ·exact absurd a e
   ·exact a.2
   ·exact absurd e2 a⟩
 ·have e:lo k≠hi k:=fun h=>c1 (hr.eq.2 h)
  have e2:y k≠lo k:=fun h=>c2 (ha.eq.2 h)
  have e3:=hc.eq.1 c3
  refine W.run_if (fun c=>W.bd (zCY (hg.2 k hk) fun s hs=>H _ ?_)) (fun c=>no c _ rfl)
  rw [decide_eq_true_iff,hs.le]
  exact ⟨fun h=>⟨(hb.1 c).1,(hb.1 c).2,.inr ⟨e,.inr ⟨e2,.inl ⟨e3,h⟩⟩⟩⟩,fun h=>by
   rcases h.2.2 with a | ⟨_,⟨a,_⟩ | ⟨_,a | ⟨a,_⟩⟩⟩
   ·exact absurd a e
   ·exact absurd a e2
   ·exact a.2
   ·exact absurd e3 a⟩
 ·have e:lo k≠hi k:=fun h=>c1 (hr.eq.2 h)
  have e2:y k≠lo k:=fun h=>c2 (ha.eq.2 h)
  have e3:y k≠hi k:=fun h=>c3 (hc.eq.2 h)
  refine W.run_if (fun c=>W.bd (zDW (hg.2 k hk) (H _ ?_))) (fun c=>no c _ rfl)
  rw [decide_eq_true_iff]
  exact ⟨fun h=>⟨(hb.1 c).1,(hb.1 c).2,.inr ⟨e,.inr ⟨e2,.inr ⟨e3,h⟩⟩⟩⟩,fun h=>by
   rcases h.2.2 with a | ⟨_,⟨a,_⟩ | ⟨_,⟨a,_⟩ | a⟩⟩
   ·exact absurd a e
   ·exact absurd a e2
   ·exact absurd a e3
   ·exact a.2⟩
theorem zIc {R:Bool×Int×Int->Prop} (hy:QL yl n y) (hg:QL gl n (slp n A V y)) (hlo:QL ll n lo) (hhi:QL hl n hi) (sy:∀ i,i<n->Sz 961 (y i)) (sl:∀ i,i<n->Sz 961 (lo i)) (sh:∀ i,i<n->Sz 961 (hi i))
  (H0:∀ k,k<n->¬ okC n A V lo hi y k->(∀ i,i<k->okC n A V lo hi y i)->R (false,(k:Int),0)) (H1:(∀ i,i<n->okC n A V lo hi y i)->R (true,0,0)) :
  (W.bind (W.loop (fun (s:Int)=>zAZ.l1 gl yl ll hl s) 0) (Lp.on (fun s=>zAZ.j2) (fun r=>W.ret r))).run R:=by
 have hyl:=hy.1
 have hgl:=hg.1
 have hll:=hlo.1
 have hhl:=hhi.1
 refine W.loop_c (fun s:Int=>∃ k:Nat,s=k/\k<=n/\∀ i,i<k->okC n A V lo hi y i) (fun s=>n - s.toNat) ⟨0,rfl,Nat.zero_le _,fun i hi=>by omega⟩ ?_
 rintro _ P1 ⟨k,rfl,hk,k1⟩ hgo hbrk hout
 unfold zAZ.l1
 simp only [zCI,hgl]
 refine W.run_if (fun c=>?_) (fun c=>hbrk _ (by obtain rfl:k=n:=(by omega);exact H1 k1))
 have hkn:k<n:=by omega
 have s1:=(sy k hkn).ok (show 961<=8796093022208 by omega)
 have s2:=(sl k hkn).ok (show 961<=8796093022208 by omega)
 have s3:=(sh k hkn).ok (show 961<=8796093022208 by omega)
 have K:∀ b',(b'=true ↔ okC n A V lo hi y k)->(zAZ.j4 (k:Int) b').run P1:=fun b' hb'=>by
  unfold zAZ.j4
  refine W.run_if (fun c=>hgo _ ⟨k+1,by simp,by omega,fun i hi'=>?_⟩ (by omega)) (fun c=>hout _ (H0 k hkn (fun h=>c (hb'.2 h)) k1))
  by_cases e:i=k
  ·rw [e];exact hb'.1 c
  ·exact k1 i (by omega)
 refine W.req_i (by omega) (W.req_i (by omega) (W.req_i (by omega) (W.req_i (by omega) (W.req_i (by omega) (W.bd (zAz (hy.2 k hkn) (hlo.2 k hkn) s1 s2 fun ra ha=>W.bd (zAz (hy.2 k hkn) (hhi.2 k hkn) s1 s3 fun rc hc=>W.run_if (fun c1=>?_) (fun c1=>?_))))))))
 ·exact zIP hg hlo hhi hkn (sl k hkn) (sh k hkn) ha hc (by rw [decide_eq_true_iff,hc.le];exact ⟨fun h=>⟨ha.ge.1 c1,h⟩,fun h=>h.2⟩) K
 ·exact zIP hg hlo hhi hkn (sl k hkn) (sh k hkn) ha hc ⟨fun h=>(nomatch h),fun h=>absurd (ha.ge.2 h.1) c1⟩ K
end
def loF (l:zAm) (i:Nat):Rat:=ratOf (gd l.Lo i)
def hiF (l:zAm) (i:Nat):Rat:=ratOf (gd l.Hi i)
def withO (n:Nat) (A:Nat->Nat->Rat) (V:Nat->Rat) (q:Rat) (lo hi x:Nat->Rat) (o:WTold):Prop:=
 (allTold n x/\(toldR (errQ n A V q x)).2=true)/\o=(tolds n x,(toldR (errQ n A V q x)).1,marksL n A V lo hi x,0)\/¬ (allTold n x/\(toldR (errQ n A V q x)).2=true)/\o=([],⟨0,0⟩,[],3)
def WithG (m:zAh) (b:List zAC) (l:zAm) (r c:Nat) (o:WTold):Prop:=
 (∃ i,i<c/\hiF l i<loF l i)/\o=([],⟨0,0⟩,[],1)\/(∀ i,i<c->loF l i<=hiF l i)/\(∀ x,¬ Sol c (gA m.V c r) (gV m.V b c r) x)/\o=([],⟨0,0⟩,[],4)\/
  (∀ i,i<c->loF l i<=hiF l i)/\(∃ s,Sol c (gA m.V c r) (gV m.V b c r) s)/\∃ x,KKT c (gA m.V c r) (gV m.V b c r) (loF l) (hiF l) x/\withO c (gA m.V c r) (gV m.V b c r) (gq b r) (loF l) (hiF l) x o
def bndR (m:zAh) (b:List zAC) (l:zAm) (G:Nat->Nat->WTold->Prop) (o:WTold):Prop:=
 ¬ okB m b l/\o=([],⟨0,0⟩,[],1)\/okB m b l/\¬ fitB m b l/\o=([],⟨0,0⟩,[],8)\/∃ r c:Nat,okB m b l/\fitB m b l/\m.R=r/\m.C=c/\G r c o
section
variable {m:zAh} {b:List zAC} {l:zAm}
theorem okB.at (h:okB m b l) (f:fitB m b l):∃ r c:Nat,m.R=r/\m.C=c/\r<=12/\c<=12/\b.length=r/\l.Lo.length=c/\l.Hi.length=c/\(∀ k,k<r->valid (gd b k))/\(∀ k,k<c->valid (gd l.Lo k))/\∀ k,k<c->valid (gd l.Hi k):=by
 obtain ⟨⟨ok,vb⟩,vl,vh⟩:=h
 obtain ⟨f1,f2,f3⟩:=f
 have o1:=ok.1
 have o2:=ok.2.1
 obtain ⟨r,hR⟩:=Int.eq_ofNat_of_zero_le o1.1
 obtain ⟨c,hC⟩:=Int.eq_ofNat_of_zero_le o2.1
 exact ⟨r,c,hR,hC,by omega,by omega,by omega,by omega,by omega,fun k hk=>(zAv b).1 vb k (by omega),fun k hk=>(zAv _).1 vl k (by omega),fun k hk=>(zAv _).1 vh k (by omega)⟩
theorem bnd_ex {c:Nat} (hc:c<=12) (vl:∀ k,k<c->valid (gd l.Lo k)) (vh:∀ k,k<c->valid (gd l.Hi k)):∃ d,Bnd c d (loF l)/\Bnd c d (hiF l):=by
 obtain ⟨d,a0,a1,a2⟩:=zHR (fun k=>if k<c then gd l.Lo k else gd l.Hi (k - c)) (c+c) fun k hk=>by
  by_cases e:k<c
  ·rw [if_pos e];exact vl k e
  ·rw [if_neg e];exact vh _ (by omega)
 have n1:Bt 961 d:=Bt.mono a1 (by omega)
 refine ⟨d,⟨a0,n1,fun i hi=>?_⟩,⟨a0,n1,fun i hi=>?_⟩⟩
 ·have:=a2 i (by omega)
  rw [if_pos hi] at this
  exact this.mono (by omega)
 ·have:=a2 (c+i) (by omega)
  rw [if_neg (by omega),show c+i - c=i by omega] at this
  exact this.mono (by omega)
end
end Go.Proofs.Ytlmpoindlejefaa.E
namespace Go.Proofs.Ytlmpoindlejefaa.E
open Go Go.RowKit
section
variable {m:zAh} {b:List zAC} {l:zAm}
theorem zGv {Q:WTold->Prop} (hl:m.V.length<=281474976710656) (hb:b.length<=281474976710656) (h1:l.Lo.length<=281474976710656) (h2:l.Hi.length<=281474976710656) (H:∀ o,bndR m b l (WithG m b l) o->Q o):(zAp.f m b l).run Q:=by
 unfold zAp.f
 refine W.bd (zDz hl hb h1 h2 (fun c=>?_) (fun ok c=>?_) (fun ok f=>?_))
 ·rw [if_pos (by decide)];exact H _ (.inl ⟨c,rfl⟩)
 ·rw [if_pos (by decide)];exact H _ (.inr (.inl ⟨ok,c,rfl⟩))
 rw [if_neg (by decide)]
 obtain ⟨r,c,hR,hC,hr,hc,e1,e2,e3,vb,vl,vh⟩:=ok.at f
 obtain ⟨hvl,hv⟩:=ok.1.1.at hR hC
 have z:=zGg (n:=r) hr (Nat.le_refl r) hv vb
 obtain ⟨dB,bl,bh⟩:=bnd_ex hc vl vh
 obtain ⟨d,d0,d1,dA,dV⟩:=zHu hr hc hv vb
 have sl:∀ i,i<c->Sz 961 (loF l i):=fun i hi=>(bl.2.2 i hi).sz bl.1 bl.2.1
 have sh:∀ i,i<c->Sz 961 (hiF l i):=fun i hi=>(bh.2.2 i hi).sz bh.1 bh.2.1
 have K:∀ o,WithG m b l r c o->Q o:=fun o ho=>H o (.inr (.inr ⟨r,c,ok,f,hR,hC,ho⟩))
 refine W.bd (zD4 ok.1.1 hR hC e1 vb fun P hP=>W.bd (zDG e2 (by omega) (fun k hk=>⟨vl k hk,rfl⟩) fun ll hlo=>W.bd (zDG e3 (by omega) (fun k hk=>⟨vh k hk,rfl⟩) fun lh hhi=>?_)))
 have hP':Sums ⟨P.sums.n,P.sums.m,P.sums.v,P.sums.q⟩ c (gA m.V c r) (gV m.V b c r) (gq b r):=⟨hP.hn,hP.hm,hP.hv,hP.hq⟩
 refine W.bd (zE3 hP' hc z (lo:=loF l) (hi:=hiF l) hlo hhi sl sh (fun c1=>?_) (fun c1 c2=>?_) (fun c1 c2=>?_))
 ·rw [if_pos (by decide)];exact K _ (.inl ⟨c1,rfl⟩)
 ·rw [if_pos (by decide)];exact K _ (.inr (.inl ⟨c1,c2,rfl⟩))
 rw [if_neg (by decide)]
 obtain ⟨s,hs⟩:=c2
 have hp:=pd_of hs
 refine W.bd (zGu hP' hc hp z d0 d1 dA dV bl bh c1 hlo hhi fun xl x hx kk cx=>?_)
 have sx:∀ i,i<c->Sz 60000000 (x i):=fun i hi=>cx.sz hi
 have sx':∀ i,i<c->Sz 16400000000 (x i):=fun i hi=>(sx i hi).mono (by omega)
 refine W.bd (zFE hP' hc hx z sx' fun o ho=>W.bd (zFw hx (by omega) ho (fun t1 t2=>?_) (fun t=>?_)))
 ·rw [if_neg (by simp)]
  exact W.bd (zEP hP' hc hx z sx' fun g hg=>zHW (P:=P) (t:=(tolds c x,(toldR (errQ c (gA m.V c r) (gV m.V b c r) (gq b r) x)).1,0)) hP.hn hc hx hg hlo hhi sx sl sh (K _ (.inr (.inr ⟨c1,⟨s,hs⟩,x,kk,.inl ⟨⟨t1,t2⟩,rfl⟩⟩))))
 ·rw [if_pos (by decide)]
  exact K _ (.inr (.inr ⟨c1,⟨s,hs⟩,x,kk,.inr ⟨t,rfl⟩⟩))
def CheckG (m:zAh) (b:List zAC) (l:zAm) (x:List zAC) (r c:Nat) (o:Bool×Int×Int):Prop:=
 (∃ i,i<c/\hiF l i<loF l i)/\o=(false,0,1)\/(∀ i,i<c->loF l i<=hiF l i)/\(∀ x,¬ Sol c (gA m.V c r) (gV m.V b c r) x)/\o=(false,0,4)\/
  (∀ i,i<c->loF l i<=hiF l i)/\(∃ s,Sol c (gA m.V c r) (gV m.V b c r) s)/\((∃ k:Nat,k<c/\¬ okC c (gA m.V c r) (gV m.V b c r) (loF l) (hiF l) (fun i=>ratOf (gd x i)) k/\(∀ i,i<k->okC c (gA m.V c r) (gV m.V b c r) (loF l) (hiF l) (fun i=>ratOf (gd x i)) i)/\o=(false,(k:Int),0))\/
   (∀ i,i<c->okC c (gA m.V c r) (gV m.V b c r) (loF l) (hiF l) (fun i=>ratOf (gd x i)) i)/\o=(true,0,0))
def checkR (m:zAh) (b:List zAC) (l:zAm) (x:List zAC) (o:Bool×Int×Int):Prop:=
 ¬ (okB m b l/\∀ r ∈ x,valid r)/\o=(false,0,1)\/(okB m b l/\∀ r ∈ x,valid r)/\¬ (fitB m b l/\(x.length:Int)=m.C)/\o=(false,0,8)\/∃ r c:Nat,(okB m b l/\∀ r ∈ x,valid r)/\(fitB m b l/\(x.length:Int)=m.C)/\m.R=r/\m.C=c/\CheckG m b l x r c o
theorem zHQ {x:List zAC} {Q:Bool×Int×Int->Prop} (hl:m.V.length<=281474976710656) (hb:b.length<=281474976710656) (h1:l.Lo.length<=281474976710656) (h2:l.Hi.length<=281474976710656) (hx:x.length<=281474976710656) (H:∀ o,checkR m b l x o->Q o):(zAZ.f m b l x).run Q:=by
 have A1:okB m b l->(zAZ.j1 x m b l).run Q:=fun ok=>by
  unfold zAZ.j1
  refine W.bd (zBs hx (W.run_if (fun c=>?_) (fun c=>H _ (.inl ⟨fun h=>c (decide_eq_true h.2),rfl⟩))))
  have vx:=of_decide_eq_true c
  refine W.bd (zDz hl hb h1 h2 (fun c=>absurd ok c) (fun ok c=>?_) (fun ok f=>?_))
  ·rw [if_pos (by decide)];exact H _ (.inr (.inl ⟨⟨ok,vx⟩,fun h=>c h.1,rfl⟩))
  rw [if_neg (by decide)]
  refine W.run_if (fun c2=>H _ (.inr (.inl ⟨⟨ok,vx⟩,fun h=>c2 h.2,rfl⟩))) (fun c2=>?_)
  have c2':(x.length:Int)=m.C:=Classical.not_not.1 c2
  obtain ⟨r,c,hR,hC,hr,hc,e1,e2,e3,vb,vl,vh⟩:=ok.at f
  obtain ⟨hvl,hv⟩:=ok.1.1.at hR hC
  have hxl:x.length=c:=by omega
  have vx':∀ k,k<c->valid (gd x k):=fun k hk=>(zAv x).1 vx k (by omega)
  have z:=zGg (n:=r) hr (Nat.le_refl r) hv vb
  obtain ⟨dB,bl,bh⟩:=bnd_ex hc vl vh
  have sl:∀ i,i<c->Sz 961 (loF l i):=fun i hi=>(bl.2.2 i hi).sz bl.1 bl.2.1
  have sh:∀ i,i<c->Sz 961 (hiF l i):=fun i hi=>(bh.2.2 i hi).sz bh.1 bh.2.1
  have sx:∀ i,i<c->Sz 40 (ratOf (gd x i)):=fun i hi=>(vx' i hi).sz
  have K:∀ o,CheckG m b l x r c o->Q o:=fun o ho=>H o (.inr (.inr ⟨r,c,⟨ok,vx⟩,⟨f,c2'⟩,hR,hC,ho⟩))
  refine W.bd (zD4 ok.1.1 hR hC e1 vb fun P hP=>W.bd (zDG e2 (by omega) (fun k hk=>⟨vl k hk,rfl⟩) fun ll hlo=>W.bd (zDG e3 (by omega) (fun k hk=>⟨vh k hk,rfl⟩) fun lh hhi=>W.bd (zDG (f:=fun i=>ratOf (gd x i)) hxl (by omega) (fun k hk=>⟨vx' k hk,rfl⟩) fun yl hy=>?_))))
  have hP':Sums ⟨P.sums.n,P.sums.m,P.sums.v,P.sums.q⟩ c (gA m.V c r) (gV m.V b c r) (gq b r):=⟨hP.hn,hP.hm,hP.hv,hP.hq⟩
  refine W.bd (zE3 hP' hc z (lo:=loF l) (hi:=hiF l) hlo hhi sl sh (fun c1=>?_) (fun c1 c2=>?_) (fun c1 c2=>?_))
  ·rw [if_pos (by decide)];exact K _ (.inl ⟨c1,rfl⟩)
  ·rw [if_pos (by decide)];exact K _ (.inr (.inl ⟨c1,c2,rfl⟩))
  rw [if_neg (by decide)]
  refine W.bd (zEP hP' hc hy z (fun i hi=>(sx i hi).mono (by omega)) fun g hg=>zIc hy hg hlo hhi (fun i hi=>(sx i hi).mono (by omega)) sl sh (fun k hk k1 k2=>K _ (.inr (.inr ⟨c1,c2,.inl ⟨k,hk,k1,k2,rfl⟩⟩))) (fun k1=>K _ (.inr (.inr ⟨c1,c2,.inr ⟨k1,rfl⟩⟩))))
 unfold zAZ.f
 refine W.bd (zDz hl hb h1 h2 (fun c=>?_) (fun ok c=>?_) (fun ok f=>?_))
 ·rw [if_pos (by decide),if_pos (by decide)];exact H _ (.inl ⟨fun h=>c h.1,rfl⟩)
 ·rw [if_pos (by decide),if_neg (by decide)];exact A1 ok
 ·rw [if_neg (by decide)];exact A1 ok
end
end Go.Proofs.Ytlmpoindlejefaa.E
namespace Go.Proofs.Ytlmpoindlejefaa.E
open Go Go.RowKit
section
variable {m:zAh} {b:List zAC} {l:zAm} {x:List zAC}
theorem Of_v {r:zAC} {Q:zAP->Prop} (v:valid r) (H:∀ z,RRep z (ratOf r)->Q z):(zCZ.f r).run Q:=zHa v.i64.1 v.i64.2.1 v.i64.2.2 H
theorem zEH {Q:zAP×Bool->Prop} (hl:m.V.length<=281474976710656) (hb:b.length<=281474976710656) (hx:x.length<=281474976710656) (H0: ¬ (okA m b/\(∀ r ∈ x,valid r)/\(b.length:Int)=m.R/\(x.length:Int)=m.C)->∀ z,Q (z,false))
  (H1:∀ (r c:Nat) z,okA m b->(∀ r ∈ x,valid r)->m.R=r->m.C=c->b.length=r->x.length=c->r<=12->c<=12->RRep z (errQ c (gA m.V c r) (gV m.V b c r) (gq b r) (fun i=>ratOf (gd x i)))->Sz 30000 (errQ c (gA m.V c r) (gV m.V b c r) (gq b r) (fun i=>ratOf (gd x i)))->Q (z,true)):(zAX.f m b x).run Q:=by
 unfold zAX.f
 refine W.bd (zFJ hl (fun ok=>?_) (fun c=>?_))
 rotate_left
 ·rw [if_pos (by decide)];exact H0 (fun h=>c h.1.1) _
 rw [if_neg (by decide)]
 refine W.bd (zFO hb (W.run_if (fun c=>?_) (fun c=>H0 (fun h=>c (decide_eq_true h.1.2)) _)))
 have vb:=of_decide_eq_true c
 refine W.bd (zFO hx (W.run_if (fun c=>?_) (fun c=>H0 (fun h=>c (decide_eq_true h.2.1)) _)))
 have vx:=of_decide_eq_true c
 refine W.run_if (fun c=>H0 (fun h=>c h.2.2.1) _) (fun c1=>W.run_if (fun c=>H0 (fun h=>c h.2.2.2) _) (fun c2=>?_))
 have o1:=ok.1
 have o2:=ok.2.1
 obtain ⟨r,hR⟩:=Int.eq_ofNat_of_zero_le o1.1
 obtain ⟨c,hC⟩:=Int.eq_ofNat_of_zero_le o2.1
 obtain ⟨hvl,hv⟩:=ok.at hR hC
 have hbl:b.length=r:=by omega
 have hxl:x.length=c:=by omega
 have hr12:r<=12:=by omega
 have hc12:c<=12:=by omega
 have vb':∀ k,k<r->valid (gd b k):=fun k hk=>(zAv b).1 vb k (by omega)
 have vx':∀ k,k<c->valid (gd x k):=fun k hk=>(zAv x).1 vx k (by omega)
 have sp:∀ j k,j<r->∀ h:k<=c,Sz (k*(80+1)+1) (sm k (fun i=>mxv m.V c j i*ratOf (gd x i))):=fun j k hj hk=>Sz.sm fun i hi=>((hv j i hj (by omega)).sz.mul (vx' i (by omega)).sz).mono (by omega)
 have sD:∀ j,j<r->Sz 1100 (sm c (fun i=>mxv m.V c j i*ratOf (gd x i)) - ratOf (gd b j)):=fun j hj=>((sp j c hj (Nat.le_refl c)).sub (vb' j hj).sz).mono (by omega)
 have sS:∀ k,k<=r->Sz 30000 (sm k (fun j=>(sm c (fun i=>mxv m.V c j i*ratOf (gd x i)) - ratOf (gd b j))*(sm c (fun i=>mxv m.V c j i*ratOf (gd x i)) - ratOf (gd b j)))):=fun k hk=>(Sz.sm (s:=2200) fun j hj=>((sD j (by omega)).mul (sD j (by omega))).mono (by omega)).mono (by omega)
 have ee:=err_eq m.V r c (fun j=>ratOf (gd b j)) (fun i=>ratOf (gd x i))
 refine W.loop_c (fun s:zAP×Int=>∃ j:Nat,s.2=j/\j<=r/\RRep s.1 (sm j (fun j=>(sm c (fun i=>mxv m.V c j i*ratOf (gd x i)) - ratOf (gd b j))*(sm c (fun i=>mxv m.V c j i*ratOf (gd x i)) - ratOf (gd b j))))) (fun s=>r - s.2.toNat) ⟨0,rfl,Nat.zero_le _,RRep.zero⟩ ?_
 rintro ⟨o,_⟩ P1 ⟨j,rfl,hj,h1⟩ hgo hbrk hout
 simp only at h1 hgo |-
 unfold zAX.l1
 simp only [hR,zCI]
 refine W.run_if (fun c3=>?_) (fun c3=>hbrk _ ?_)
 ·have hjr:j<r:=by omega
  refine W.req_i (by omega) (W.bd (Of_v (vb' j hjr) fun u hu=>W.bd (zHC hu fun w hw=>?_)))
  refine W.loop_c (fun s:zAP×Int=>∃ k:Nat,s.2=k/\k<=c/\RRep s.1 (- ratOf (gd b j)+sm k (fun i=>mxv m.V c j i*ratOf (gd x i)))) (fun s=>c - s.2.toNat) ⟨0,rfl,Nat.zero_le _,by rw [sm,Rat.add_zero];exact hw⟩ ?_
  rintro ⟨e,_⟩ P2 ⟨k,rfl,hk,k1⟩ hgo2 hbrk2 hout2
  simp only at k1 hgo2 |-
  unfold zAX.l2
  simp only [hC]
  refine W.run_if (fun c4=>?_) (fun c4=>hbrk2 _ ?_)
  ·have hkc:k<c:=by omega
   have hp:=zHl (a:=(j:Int)) (b:=(c:Int)) (by omega) (by omega)
   have hat:=at_lt hjr hkc
   have ei:(j:Int)*(c:Int)+(k:Int)=((j*c+k:Nat):Int):=by simp
   have vm:=hv j k hjr hkc
   have s1:=((vb' j hjr).sz.neg).add (sp j k hjr (by omega))
   refine W.req_i (by show _/\_;omega) (W.req_i (by show _/\_;omega) ?_)
   rw [ei]
   simp only [zCI]
   exact W.req_i (by omega) (W.req_i (by omega) (W.bd (Of_v vm fun p hp=>W.bd (Of_v (vx' k hkc) fun p2 hp2=>W.bd (zFN hp hp2 (vm.sz.ok (by omega)) ((vx' k hkc).sz.ok (by omega)) fun t ht=>W.bd (zFP k1 ht (s1.ok (by omega)) ((vm.sz.mul (vx' k hkc).sz).ok (by omega)) fun y hy=>hgo2 _ ⟨k+1,by simp,by omega,by rw [sm,<- Rat.add_assoc];exact hy⟩ (by simp;omega)))))))
  ·obtain rfl:k=c:=(by omega)
   unfold zAX.j3
   have e2: - ratOf (gd b j)+sm k (fun i=>mxv m.V k j i*ratOf (gd x i))=sm k (fun i=>mxv m.V k j i*ratOf (gd x i)) - ratOf (gd b j):=by grind
   rw [e2] at k1
   have s1:=(sD j hjr).ok (show 1100<=8796093022208 by omega)
   exact W.bd (zFN k1 k1 s1 s1 fun t ht=>W.bd (zFP h1 ht ((sS j hj).ok (by omega)) (((sD j hjr).mul (sD j hjr)).ok (by omega)) fun y hy=>hgo _ ⟨j+1,by simp,by omega,hy⟩ (by simp;omega)))
 ·obtain rfl:j=r:=(by omega)
  have s1:=sS j hj
  rw [ee] at h1 s1
  exact H1 j c _ ⟨ok,vb⟩ vx hR hC hbl hxl hr12 hc12 h1 s1
theorem KKT.cong {n:Nat} {A:Nat->Nat->Rat} {V lo hi x y:Nat->Rat} (h:KKT n A V lo hi x) (e:∀ i,i<n->x i=y i):KKT n A V lo hi y:=fun i hi'=>by
 have:=h i hi'
 rw [e i hi',zHA e i] at this
 exact this
theorem zGC {c:Nat} {y:Nat->Rat} (h:allTold c y) {i:Nat} (hi:i<c):valid (gd (tolds c y) i)/\ratOf (gd (tolds c y) i)=y i:=by
 rw [tolds_gd hi];exact zE5 (h i hi)
theorem zGM {c:Nat} {y:Nat->Rat} (h:allTold c y):∀ r ∈ tolds c y,valid r:=(zAv _).2 fun k hk=>(zGC h (by rwa [zD8] at hk)).1
theorem zI4 {R:Ctl Int Bool->Prop} {r c:Nat} {z:zAP×Bool} {E:Rat} {p:Int} {o:Told} (ok:okA m b) (hR:m.R=r) (hC:m.C=c) (hbl:b.length=r) (hl:m.V.length<=281474976710656) (hc:c<=12) (hz:RRep z.1 E) (sE:Sz 30000 E) (hE:∀ y,(∀ i,i<c->dz c (gA m.V c r i) y=gV m.V b c r i)->errQ c (gA m.V c r) (gV m.V b c r) (gq b r) y<=E)
  (ho:o.2.2≠0\/∃ y,(∀ i,i<c->dz c (gA m.V c r i) y=gV m.V b c r i)/\toldO c (gA m.V c r) (gV m.V b c r) (gq b r) y o) (H:R (.go (p+1))):(zAT.j4 p m b z o.1 o.2.1 o.2.2).run R:=by
 unfold zAT.j4 zAT.j3
 refine W.run_if (fun _=>H) (fun c1=>?_)
 rcases ho with ho | ⟨y,hy,⟨⟨t1,t2⟩,rfl⟩ | ⟨_,rfl⟩⟩
 ·exact absurd ho c1
 ·have hr12:r<=12:=by have:=ok.1.1;omega
  refine W.bd (zEH hl (by omega) (by rw [zD8];omega) (fun h=>absurd ⟨ok,zGM t1,by omega,by rw [zD8,hC]⟩ h) (fun r' c' z' _ _ e1 e2 _ _ _ _ hz' sz'=>?_))
  obtain rfl:r'=r:=(by omega)
  obtain rfl:c'=c:=(by omega)
  rw [zEv fun i hi=>(zGC t1 hi).2] at hz' sz'
  obtain ⟨v1,v2⟩:=zE5 t2
  refine W.bd (Of_v v1 fun w hw=>?_)
  rw [v2] at hw
  have s1:=sz'.ok (show 30000<=8796093022208 by omega)
  refine W.bd (zCQ hz' hw s1 s1 fun k hk=>?_)
  rw [if_neg (by rw [hk.eq.2 rfl];decide)]
  exact W.bd (zCQ hz' hz s1 (sE.ok (by omega)) fun k hk=>W.run_if (fun c2=>absurd (hE y hy) (Rat.not_le.2 (hk.gt.1 c2))) (fun _=>H))
 ·exact absurd (by decide) c1
theorem zId {o:Told} {r c:Nat} (h:argsR m b (LeastG m b) o) (ok:okA m b) (hR:m.R=r) (hC:m.C=c) (hbl:b.length=r):o.2.2≠0\/∃ y,(∀ i,i<c->dz c (gA m.V c r i) y=gV m.V b c r i)/\toldO c (gA m.V c r) (gV m.V b c r) (gq b r) y o:=by
 rcases h with ⟨h,_⟩ | ⟨_,h,_⟩ | ⟨r',c',_,e1,e2,_,h⟩
 ·exact absurd ok h
 ·omega
 ·obtain rfl:r'=r:=(by omega)
  obtain rfl:c'=c:=(by omega)
  rcases h with ⟨y,h1,h2⟩ | ⟨_,rfl⟩
  ·exact .inr ⟨y,(h1 y).2 fun _ _=>rfl,h2⟩
  ·exact .inl (show ((4:Int)≠0) by decide)
theorem zI6 {o:Told} {r c:Nat} (h:argsR m b (NearG m b) o) (ok:okA m b) (hR:m.R=r) (hC:m.C=c) (hbl:b.length=r):o.2.2≠0\/∃ y,(∀ i,i<c->dz c (gA m.V c r i) y=gV m.V b c r i)/\toldO c (gA m.V c r) (gV m.V b c r) (gq b r) y o:=by
 rcases h with ⟨h,_⟩ | ⟨_,h,_⟩ | ⟨r',c',_,e1,e2,_,y,h1,h2⟩
 ·exact absurd ok h
 ·omega
 ·obtain rfl:r'=r:=(by omega)
  obtain rfl:c'=c:=(by omega)
  exact .inr ⟨y,h1.1,h2⟩
theorem zFn (hl:m.V.length<=281474976710656) (hb:b.length<=281474976710656) (h1:l.Lo.length<=281474976710656) (h2:l.Hi.length<=281474976710656) (hx:x.length<=281474976710656):(zAT.f m b l x).run fun r=>r=true:=by
 unfold zAT.f
 refine W.bd (zEH hl hb hx (fun _ z=>?_) (fun r c z ok vx hR hC hbl hxl hr hc hz sz=>?_))
 ·rw [if_neg (by simp)];exact W.bd (zC7 rfl)
 rw [if_pos rfl]
 have vx':∀ k,k<c->valid (gd x k):=fun k hk=>(zAv x).1 vx k (by omega)
 refine W.loop_c (fun s:Int=>∃ k:Nat,s=k/\k<=2) (fun s=>2 - s.toNat) ⟨0,rfl,Nat.zero_le _⟩ ?_
 rintro _ P1 ⟨k,rfl,hk⟩ hgo hbrk hout
 unfold zAT.l2
 refine W.run_if (fun c1=>?_) (fun c1=>hbrk _ ?_)
 ·have go:P1 (.go ((k:Int)+1)):=hgo _ ⟨k+1,by simp,by omega⟩ (by omega)
  have hE:∀ y,(∀ i,i<c->dz c (gA m.V c r i) y=gV m.V b c r i)->errQ c (gA m.V c r) (gV m.V b c r) (gq b r) y<=errQ c (gA m.V c r) (gV m.V b c r) (gq b r) (fun i=>ratOf (gd x i)):=fun y hy=>sol_min hy
  refine W.bd (zHP hl hb fun o ho=>W.run_if (fun _=>W.bd (zGh hl hb fun o2 ho2=>?_)) (fun _=>?_))
  ·exact zI4 ok hR hC hbl hl hc hz sz hE (zI6 ho2 ok hR hC hbl) go
  ·exact zI4 ok hR hC hbl hl hc hz sz hE (zId ho ok hR hC hbl) go
 clear hgo hbrk hout
 unfold zAT.j1
 refine W.bd (zGv hl hb h1 h2 fun o ho=>W.run_if (fun _=>W.bd (zC7 rfl)) (fun c2=>?_))
 rcases ho with ⟨_,rfl⟩ | ⟨_,_,rfl⟩ | ⟨r',c',okb,fb,e1,e2,ho⟩
 ·exact absurd (by decide) c2
 ·exact absurd (by decide) c2
 obtain rfl:r'=r:=(by omega)
 obtain rfl:c'=c:=(by omega)
 rcases ho with ⟨_,rfl⟩ | ⟨_,_,rfl⟩ | ⟨hle,⟨s,hs⟩,y,kk,ho⟩
 ·exact absurd (by decide) c2
 ·exact absurd (by decide) c2
 obtain ⟨⟨t1,t2⟩,rfl⟩:=ho.resolve_right fun h=>by
  obtain ⟨_,rfl⟩:=h
  exact absurd (by decide) c2
 have hp:=pd_of hs
 obtain ⟨f1,f2,f3⟩:=fb
 obtain ⟨_,vlo,vhi⟩:=okb
 have vlo':∀ k,k<c'->valid (gd l.Lo k):=fun k hk=>(zAv _).1 vlo k (by omega)
 have vhi':∀ k,k<c'->valid (gd l.Hi k):=fun k hk=>(zAv _).1 vhi k (by omega)
 have tl:=zD8 c' y
 have ok40:(40:Nat)<=8796093022208:=by omega
 simp only [tl]
 rw [if_neg (by omega),if_neg (by omega),if_neg (by omega)]
 refine W.loop_c (fun s:Bool×Int=>∃ k:Nat,s.2=k/\k<=c'/\(s.1=true->∀ i,i<k->loF l i<=ratOf (gd x i)/\ratOf (gd x i)<=hiF l i)) (fun s=>c' - s.2.toNat) ⟨0,rfl,Nat.zero_le _,fun _ i hi=>by omega⟩ ?_
 rintro ⟨fl,_⟩ P1 ⟨k,rfl,hk,k1⟩ hgo hbrk hout
 simp only at k1 hgo |-
 unfold zAT.l1
 simp only [zCI,tl]
 refine W.run_if (fun c3=>?_) (fun c3=>hbrk _ ?_)
 ·have hkc:k<c':=by omega
  obtain ⟨v1,v2⟩:=zGC t1 hkc
  have w1:=v1.sz
  rw [v2] at w1
  have kb:=kk k hkc
  have next:∀ fl':Bool,(fl'=true->(∀ i,i<k->loF l i<=ratOf (gd x i)/\ratOf (gd x i)<=hiF l i)/\loF l k<=ratOf (gd x k)/\ratOf (gd x k)<=hiF l k)->P1 (.go (fl',(k:Int)+1)):=fun fl' h=>hgo _ ⟨k+1,by simp,by omega,fun e i hi=>by
   by_cases e2:i=k
   ·rw [e2];exact (h e).2
   ·exact (h e).1 i (by omega)⟩ (by simp;omega)
  refine W.req_i (by omega) (W.req_i (by omega) (W.bd (Of_v (vlo' k hkc) fun a ha=>W.bd (Of_v (vhi' k hkc) fun d hd=>W.req_i (by omega) (W.bd (Of_v v1 fun e he=>?_))))))
  rw [v2] at he
  refine W.bd (zCQ he ha (w1.ok ok40) ((vlo' k hkc).sz.ok ok40) fun q hq=>W.run_if (fun c4=>absurd kb.1 (Rat.not_le.2 (hq.lt.1 c4))) (fun c4=>W.bd (zCQ he hd (w1.ok ok40) ((vhi' k hkc).sz.ok ok40) fun q2 hq2=>W.run_if (fun c5=>absurd kb.2.1 (Rat.not_le.2 (hq2.gt.1 c5))) (fun c5=>W.req_i (by omega) (W.bd (Of_v (vx' k hkc) fun u hu=>W.run_if (fun c6=>?_) (fun c6=>next false fun h=>nomatch h)))))))
  refine W.bd (zCQ hu ha ((vx' k hkc).sz.ok ok40) ((vlo' k hkc).sz.ok ok40) fun q3 hq3=>W.run_if (fun c7=>W.bd (zCQ hu hd ((vx' k hkc).sz.ok ok40) ((vhi' k hkc).sz.ok ok40) fun q4 hq4=>next _ fun h=>?_)) (fun c7=>next false fun h=>nomatch h))
  exact ⟨k1 c6,hq3.ge.1 c7,hq4.le.1 (of_decide_eq_true h)⟩
 ·obtain rfl:k=c':=(by omega)
  clear hgo hbrk hout
  have kk2:=kk.cong (y:=fun i=>ratOf (gd (tolds k y) i)) fun i hi=>(zGC t1 hi).2.symm
  unfold zAT.j2
  refine W.bd (zHQ hl hb h1 h2 (by rw [tl];omega) fun o ho=>?_)
  have vt:=zGM t1
  have ho':o=(true,0,0):=by
   rcases ho with ⟨h,_⟩ | ⟨_,h,_⟩ | ⟨r2,c3,_,_,e3,e4,h⟩
   ·exact absurd ⟨⟨ok,vlo,vhi⟩,vt⟩ h
   ·exact absurd ⟨⟨f1,f2,f3⟩,by rw [tl,hC]⟩ h
   ·obtain rfl:r2=r':=(by omega)
    obtain rfl:c3=k:=(by omega)
    rcases h with ⟨⟨i,hi,h⟩,_⟩ | ⟨_,h,_⟩ | ⟨_,_,⟨i,hi,h,_⟩ | ⟨_,h⟩⟩
    ·exact absurd (hle i hi) (Rat.not_le.2 h)
    ·exact absurd hs (h s)
    ·exact absurd (kk2.okC hi) h
    ·exact h
  subst ho'
  simp only
  rw [if_pos trivial,if_pos trivial]
  refine W.run_if (fun c6=>?_) (fun _=>W.bd (zC7 rfl))
  obtain ⟨v1,v2⟩:=zE5 t2
  refine W.bd (Of_v v1 fun w hw=>W.bd (zCQ hw hz (v1.sz.ok ok40) (sz.ok (by omega)) fun q hq=>?_))
  rw [if_pos]
  ·exact W.bd (zC7 rfl)
  ·rw [hq.le,v2]
   exact kk.best hp fun i hi=>k1 c6 i hi
end
end Go.Proofs.Ytlmpoindlejefaa.E
