/- Plan: what the program computes. -/
import Derived.Test.YtlmpoindlejefaaQM30
set_option linter.unusedVariables false
set_option linter.unusedSimpArgs false
namespace Go.Proofs.Ytlmpoindlejefaa.E
open Go Go.RowKit
abbrev ToldP:=List (List zn)×zn×Int
def rowsP (n u:Nat) (x:Nat->Rat):List (List zn):=(List.range n).map fun t=>tolds u (fun j=>x (t*u+j))
theorem zIP (n u:Nat) (x:Nat->Rat):rowsP (n+1) u x=rowsP n u x ++ [tolds u (fun j=>x (n*u+j))]:=by unfold rowsP;rw [List.range_succ,List.map_append];rfl
theorem zHT (n u:Nat) (x:Nat->Rat):(rowsP n u x).length=n:=by simp [rowsP]
theorem zHS {N u t:Nat} (x:Nat->Rat) (h:t*u+u<=N):((tolds N x).drop (t*u)).take u=tolds u (fun j=>x (t*u+j)):=by
 apply List.ext_getElem
 ·rw [List.length_take,List.length_drop,zDC,zDC];omega
 ·intro i h1 h2
  simp [tolds]
theorem zFc {l:List zn} {Q:List zn->Prop} (hl:l.length<=1000000) (H:Q l):(zBv.f l).run Q:=by
 unfold zBv.f
 intro b hb
 refine W.run_if (fun c=>?_) (fun c=>W.req_i (by simp;omega) (by simpa [W.ret_r] using H))
 rw [W.ret_r,<- hb c]
 exact H
theorem zHl {S:zAf} {l:List zAF} {n:Nat} {A:Nat->Nat->Rat} {V x:Nat->Rat} {q:Rat} {Q:zAF->Prop} (hS:Sums S n A V q) (hn:n<=12) (hx:QL l n x) (z:Small 1000000 n A V q) (sx:∀ i,i<n->Sz 505100000 (x i)) (H:∀ o,QRep o (errQ n A V q x)->Q o):(zA7.f S l).run Q:=by
 have hxl:=hx.1
 have hml:=hS.hm.1
 unfold zA7.f
 refine W.bd (zGe hS.hv hx (by omega) (by omega) z.v sx fun d hd=>W.bd (zCv (n:=2) (by show _/\_;omega) fun two h2=>?_))
 have zd:Sz 6073200013 (sm n (fun i=>V i*x i)):=(Sz.sm fun j hj=>(z.v j hj).mul (sx j hj)).mono (by omega)
 have z2:Sz 2 (((2:Int):Rat)):=⟨by decide,by decide⟩
 have zb:=z.q.sub (zd.mul z2)
 refine W.bd (zB4 hd h2 (zd.ok (by omega)) (z2.ok (by omega)) fun p hp=>W.bd (zEI hS.hq hp (z.q.ok (by omega)) ((zd.mul z2).ok (by omega)) fun b hb=>?_))
 refine W.loop_c (fun s:zAF×Int=>∃ i:Nat,s.2=i/\i<=n/\QRep s.1 (q - sm n (fun i=>V i*x i)*((2:Int):Rat)+sm i (fun i=>x i*sm n (fun k=>A i k*x k)))) (fun s=>n - s.2.toNat) ⟨0,rfl,Nat.zero_le _,by simpa [sm,Rat.add_zero] using hb⟩ ?_
 rintro ⟨o,_⟩ P ⟨i,rfl,hi,h1⟩ hgo hbrk hout
 simp only at h1 hgo |-
 unfold zA7.l1
 simp only [zCE,hS.hn]
 have zr:∀ j,j<n->Sz 6073200013 (sm n (fun k=>A j k*x k)):=fun j hj=>(Sz.sm fun k hk=>(z.a j k hj hk).mul (sx k hk)).mono (by omega)
 refine W.run_if (fun c=>?_) (fun c=>hbrk _ ?_)
 ·have hin:i<n:=by omega
  have zs:Sz (i*(505100000+6073200013+1)+1) (sm i (fun i=>x i*sm n (fun k=>A i k*x k))):=Sz.sm fun j hj=>(sx j (by omega)).mul (zr j (by omega))
  refine W.req_i (by omega) (W.req_i (by omega) (W.bd (zGe (hS.hm.2 i hin) hx (by omega) (by omega) (fun k hk=>z.a i k hin hk) sx fun e he=>W.bd (zB4 (hx.2 i hin) he ((sx i hin).ok (by omega)) ((zr i hin).ok (by omega)) fun u hu=>W.bd (zBr h1 hu ((zb.add zs).ok (by omega)) (((sx i hin).mul (zr i hin)).ok (by omega)) fun y hy=>hgo _ ⟨i+1,by simp,by omega,?_⟩ (by simp;omega))))))
  rw [sm,<- Rat.add_assoc]
  exact hy
 ·obtain rfl:i=n:=by omega
  exact H _ h1
theorem zEv {a:zAS} {k s:Nat} {y:List zAF} {f:Nat->Rat} {Q:List zAF->Prop} (hk:k<=12) (hl:a.V.length=k*k) (hv:∀ j i,j<k->i<k->valid (gd a.V (j*k+i))) (hy:QL y k f) (hs:s<=1000000) (sf:∀ i,i<k->Sz s (f i)) (H:∀ o,QL o k (fun i=>sm k (fun j=>mxv a.V k i j*f j))->Q o):(zAk.f y (k:Int) a).run Q:=by
 have hyl:=hy.1
 unfold zAk.f
 refine W.bd (zCx (n:=k) (by omega) fun z hz=>?_)
 refine W.loop_c (fun s:List zAF×Int=>∃ i:Nat,s.2=i/\i<=k/\QL s.1 k (fun p=>if p<i then sm k (fun j=>mxv a.V k p j*f j) else 0)) (fun s=>k - s.2.toNat) ⟨0,rfl,Nat.zero_le _,hz.congr fun i _=>by rw [if_neg (by omega)]⟩ ?_
 rintro ⟨out,_⟩ P ⟨i,rfl,hi,h1⟩ hgo hbrk hout
 simp only at h1 hgo |-
 unfold zAk.l1
 refine W.run_if (fun c=>?_) (fun c=>hbrk _ ?_)
 ·have hik:i<k:=by omega
  refine W.loop_c (fun s:List zAF×Int=>∃ j:Nat,s.2=j/\j<=k/\QL s.1 k (fun p=>if p=i then sm j (fun j=>mxv a.V k i j*f j) else if p<i then sm k (fun j=>mxv a.V k p j*f j) else 0)) (fun s=>k - s.2.toNat) ⟨0,rfl,Nat.zero_le _,h1.congr fun p _=>?_⟩ ?_
  ·by_cases e:p=i
   ·rw [if_pos e,if_neg (by omega)];rfl
   ·rw [if_neg e]
  rintro ⟨o2,_⟩ P2 ⟨j,rfl,hj,k1⟩ hgo2 hbrk2 hout2
  simp only at k1 hgo2 |-
  have k1l:=k1.1
  unfold zAk.l2
  refine W.run_if (fun c2=>?_) (fun c2=>hbrk2 _ ?_)
  ·have hjk:j<k:=by omega
   have hp:=zDn (a:=(i:Int)) (b:=(k:Int)) (by omega) (by omega)
   have hat:=at_lt hik hjk
   have e1:(i:Int)*(k:Int)+(j:Int)=((i*k+j:Nat):Int):=by simp
   refine W.req_i (by omega) (W.req_i (by show _/\_;omega) (W.req_i (by show _/\_;omega) ?_))
   rw [e1]
   simp only [zCE]
   have hcell:=k1.2 i hik
   dsimp only at hcell
   rw [if_pos rfl] at hcell
   have sz:Sz (j*(40+s+1)+1) (sm j (fun j=>mxv a.V k i j*f j)):=Sz.sm fun q hq=>(show Sz 40 (mxv a.V k i q) from (hv i q hik (by omega)).sz).mul (sf q (by omega))
   have hmul:=Nat.mul_le_mul (show j<=12 by omega) (show 40+s+1<=1000041 by omega)
   have s1:Sz 40 (mxv a.V k i j):=(hv i j hik hjk).sz
   refine W.req_i (by omega) (W.req_i (by omega) (W.bd (zC5 (hv i j hik hjk) fun v hv2=>W.bd (zB4 hv2 (hy.2 j hjk) (s1.ok (by omega)) ((sf j hjk).ok (by omega)) fun m hm=>W.bd (zBr hcell hm (sz.ok (by omega)) ((s1.mul (sf j hjk)).ok (by omega)) fun z2 hz2=>W.req_i (by omega) (hgo2 _ ⟨j+1,by simp,by omega,?_⟩ (by simp;omega)))))))
   rw [Int.toNat_natCast]
   refine (k1.set hz2).congr fun p _=>?_
   by_cases e:p=i
   ·rw [if_pos e,if_pos e];rfl
   ·simp only [if_neg e]
  ·obtain rfl:j=k:=by omega
   unfold zAk.j2
   refine hgo _ ⟨i+1,by simp,by omega,k1.congr fun p _=>?_⟩ (by simp;omega)
   by_cases e:p=i
   ·rw [if_pos e,if_pos (by omega),e]
   ·have:(p<i+1) ↔ (p<i):=by omega
    rw [if_neg e];simp only [this]
 ·obtain rfl:i=k:=by omega
  unfold zAk.j1
  exact H _ (h1.congr fun p hp=>by rw [if_pos hp])
section
variable {a b:zAS} {x goal:List zn} {w:zn} {k u n N:Nat} {Q:ToldP->Prop}
abbrev plS (a b:zAS) (x:List zn) (k u n i:Nat):Rat:=endV k u (mxv a.V k) (mxv b.V u) (fun i=>ratOf (gd x i)) (fun _=>0) n i
abbrev plL (a b:zAS) (x goal:List zn) (k u n i:Nat):Rat:=ratOf (gd goal i) - plS a b x k u n i
abbrev plGG (a b:zAS) (k u n:Nat):Nat->Nat->Rat:=plG k u (mxv a.V k) (mxv b.V u) n
abbrev plMM (a b:zAS) (w:zn) (k u n:Nat):Nat->Nat->Rat:=plM k (plGG a b k u n) (ratOf w)
abbrev plVV (a b:zAS) (x goal:List zn) (k u n:Nat):Nat->Rat:=plV k (plGG a b k u n) (plL a b x goal k u n)
abbrev plqq (a b:zAS) (x goal:List zn) (k u n:Nat):Rat:=plq k (plL a b x goal k u n)
structure PlOk (a b:zAS) (x goal:List zn) (w:zn) (k u n:Nat):Prop where
 oa:matOk a
 ob:matOk b
 aR:a.R=k
 aC:a.C=k
 bR:b.R=k
 bC:b.C=u
 xl:x.length=k
 gl:goal.length=k
 vx:∀ r ∈ x,valid r
 vg:∀ r ∈ goal,valid r
 vw:valid w
 n1:1<=n
 n6:n<=6
 wp:0<w.N
 nu:n*u<=12
theorem PlOk.le (h:PlOk a b x goal w k u n):k<=12/\u<=12:=by
 have h1:=h.oa.1
 have h2:=h.ob.2.1
 have h3:=h.aR
 have h4:=h.bC
 omega
theorem PlOk.av (h:PlOk a b x goal w k u n):a.V.length=k*k/\∀ j i,j<k->i<k->valid (gd a.V (j*k+i)):=h.oa.at h.aR h.aC
theorem PlOk.bv (h:PlOk a b x goal w k u n):b.V.length=k*u/\∀ j i,j<k->i<u->valid (gd b.V (j*u+i)):=h.ob.at h.bR h.bC
theorem PlOk.xv (h:PlOk a b x goal w k u n):∀ j,j<k->valid (gd x j):=fun j hj=>(zBs x).1 h.vx j (by rw [h.xl];exact hj)
theorem PlOk.gv (h:PlOk a b x goal w k u n):∀ j,j<k->valid (gd goal j):=fun j hj=>(zBs goal).1 h.vg j (by rw [h.gl];exact hj)
theorem PlOk.wpos (h:PlOk a b x goal w k u n):0<ratOf w:=by
 have h1:=h.vw.1
 have h2:=h.wp
 unfold ratOf
 rw [Rat.divInt_eq_div]
 have a1:(0:Rat)<(w.N:Rat):=by exact_mod_cast h2
 have a2:(0:Rat)<(w.D:Rat):=by exact_mod_cast (show 0<w.D by omega)
 rw [Rat.div_def]
 exact Rat.mul_pos a1 (Rat.inv_pos.2 a2)
theorem PlOk.end_fd (h:PlOk a b x goal w k u n) {q:Nat} {wi:Nat->Rat} {dw:Int} (w0:dw≠0) (bw:Bt q dw) (fw:∀ c,c<n*u->Fd dw q (wi c)):∀ t,t<=n->∃ d:Int,d≠0/\Bt (40898+q) d/\∀ i,i<k->Fd d (40898+q) (endV k u (mxv a.V k) (mxv b.V u) (fun i=>ratOf (gd x i)) wi t i):=by
 intro t ht
 obtain ⟨hk,hu⟩:=h.le
 obtain ⟨dA,a0,a1,a2⟩:=zHG hk hk h.av.1 h.av.2 h.oa.2.2.2
 obtain ⟨dB,b0,b1,b2⟩:=zHG hk hu h.bv.1 h.bv.2 h.ob.2.2.2
 obtain ⟨dx,x0,x1,x2⟩:=zIj hk h.xv
 have n6:=h.n6
 refine ⟨dA ^ t*dx*(dB*dw),Int.mul_ne_zero (Int.mul_ne_zero (zHV a0 t) x0) (Int.mul_ne_zero b0 w0),(((a1.pow t).mul x1).mul (b1.mul bw)).mono (by omega),fun i hi=>?_⟩
 exact (zH5 (N:=n*u) hk hu a0 x0 b0 w0 a1 x1 b1 bw a2 x2 b2 fw t (Nat.mul_le_mul_right u ht) i hi).mono (by omega)
theorem zIa (c i:Nat):Fd 1 1 (unitV c i):=by
 unfold unitV
 split
 ·exact Fd.one (by decide) (by decide)
 ·exact Fd.zero
theorem PlOk.g_fd (h:PlOk a b x goal w k u n):∀ t,t<=n->∃ d:Int,d≠0/\Bt 40900 d/\∀ i c,i<k->c<n*u->Fd d 40900 (plG k u (mxv a.V k) (mxv b.V u) t i c):=by
 intro t ht
 obtain ⟨hk,hu⟩:=h.le
 obtain ⟨dA,a0,a1,a2⟩:=zHG hk hk h.av.1 h.av.2 h.oa.2.2.2
 obtain ⟨dB,b0,b1,b2⟩:=zHG hk hu h.bv.1 h.bv.2 h.ob.2.2.2
 have n6:=h.n6
 refine ⟨dA ^ t*1*(dB*1),Int.mul_ne_zero (Int.mul_ne_zero (zHV a0 t) (by decide)) (Int.mul_ne_zero b0 (by decide)),((((a1.pow t).mul (show Bt 1 1 by unfold Bt;decide)).mul (b1.mul (show Bt 1 1 by unfold Bt;decide))).mono (by omega)),fun i c hi hc=>?_⟩
 exact (zH5 (N:=n*u) (x:=fun _=>0) (s:=1) (q:=1) hk hu a0 (by decide) b0 (by decide) a1 (show Bt 1 1 by unfold Bt;decide) b1 (show Bt 1 1 by unfold Bt;decide) a2 (fun i _=>Fd.zero) b2 (fun c2 _=>zIa c c2) t (Nat.mul_le_mul_right u ht) i hi).mono (by omega)
theorem PlOk.g_sz (h:PlOk a b x goal w k u n) {t i c:Nat} (ht:t<=n) (hi:i<k) (hc:c<n*u):Sz 40900 (plG k u (mxv a.V k) (mxv b.V u) t i c):=by
 obtain ⟨d,d0,d1,d2⟩:=h.g_fd t ht
 exact (d2 i c hi hc).sz d0 d1
theorem PlOk.s_sz (h:PlOk a b x goal w k u n) {t i:Nat} (ht:t<=n) (hi:i<k):Sz 40899 (endV k u (mxv a.V k) (mxv b.V u) (fun i=>ratOf (gd x i)) (fun _=>0) t i):=by
 obtain ⟨d,d0,d1,d2⟩:=h.end_fd (q:=1) (wi:=fun _=>0) (dw:=1) (by decide) (by unfold Bt;decide) (fun _ _=>Fd.zero) t ht
 exact (d2 i hi).sz d0 d1
theorem PlOk.l_fd (h:PlOk a b x goal w k u n):∃ d:Int,d≠0/\Bt 41400 d/\∀ i,i<k->Fd d 41400 (plL a b x goal k u n i):=by
 obtain ⟨d,d0,d1,d2⟩:=h.end_fd (q:=1) (wi:=fun _=>0) (dw:=1) (by decide) (by unfold Bt;decide) (fun _ _=>Fd.zero) n (Nat.le_refl n)
 obtain ⟨e,e0,e1,e2⟩:=zIj h.le.1 h.gv
 refine ⟨e*d,Int.mul_ne_zero e0 d0,(e1.mul d1).mono (by omega),fun i hi=>?_⟩
 have h1:=(e2 i hi).up e0 d0 d1
 have h2:=(d2 i hi).up d0 e0 e1
 rw [Int.mul_comm d e] at h2
 exact ((h1.mono (t:=41399) (by omega)).sub (h2.mono (by omega))).mono (by omega)
theorem PlOk.cdM (h:PlOk a b x goal w k u n):CdM (n*u) (n*u+1) 123300 (augM (n*u) (plMM a b w k u n) (plVV a b x goal k u n)):=by
 obtain ⟨d,d0,d1,d2⟩:=h.g_fd n (Nat.le_refl n)
 obtain ⟨e,e0,e1,e2⟩:=h.l_fd
 obtain ⟨f0,f1,f2⟩:=h.vw.fd
 exact pl_cdM h.le.1 d0 e0 f0 d1 e1 f1 d2 e2 f2
theorem PlOk.small (h:PlOk a b x goal w k u n):Small 1000000 (n*u) (plMM a b w k u n) (plVV a b x goal k u n) (plqq a b x goal k u n):=by
 have z:=h.cdM.sz
 obtain ⟨e,e0,e1,e2⟩:=h.l_fd
 have hk:=h.le.1
 refine ⟨fun i j hi hj=>?_,fun i hi=>?_,?_⟩
 ·have:=z i j hi (by omega)
  unfold augM at this
  rw [if_neg (by omega)] at this
  exact this.mono (by omega)
 ·have:=z i (n*u) hi (by omega)
  unfold augM at this
  rw [if_pos rfl] at this
  exact this.mono (by omega)
 ·have s1:∀ i,i<k->Sz 41400 (plL a b x goal k u n i):=fun i hi=>(e2 i hi).sz e0 e1
  exact (Sz.sm fun i hi=>(s1 i hi).mul (s1 i hi)).mono (by omega)
def PlanG (a b:zAS) (x goal:List zn) (w:zn) (k u n:Nat) (o:ToldP):Prop:=
 ∃ z,Sol (n*u) (plMM a b w k u n) (plVV a b x goal k u n) z/\((allTold (n*u) z/\(toldR (errQ (n*u) (plMM a b w k u n) (plVV a b x goal k u n) (plqq a b x goal k u n) z)).2=true)/\o=(rowsP n u z,(toldR (errQ (n*u) (plMM a b w k u n) (plVV a b x goal k u n) (plqq a b x goal k u n) z)).1,0)\/¬ (allTold (n*u) z/\(toldR (errQ (n*u) (plMM a b w k u n) (plVV a b x goal k u n) (plqq a b x goal k u n) z)).2=true)/\o=([],⟨0,0⟩,3))
theorem zHK {z:Nat->Rat} {flat:List zn×zn×Int} (hn:n<=6) (hu:u<=12) (hf:flat.1=tolds (n*u) z) (H:Q (rowsP n u z,flat.2.1,0)):(W.bind (W.loop (fun (s:List (List zn)×Int)=>zAI.l1 (n:Int) (u:Int) flat s.1 s.2) ([],0)) (Lp.on (fun s=>zAI.j7 flat s.1) (fun r=>W.ret r))).run Q:=by
 refine W.loop_c (fun s:List (List zn)×Int=>∃ t:Nat,s.2=t/\t<=n/\s.1=rowsP t u z) (fun s=>n - s.2.toNat) ⟨0,rfl,Nat.zero_le _,rfl⟩ ?_
 rintro ⟨_,_⟩ P ⟨t,rfl,ht,rfl⟩ hgo hbrk hout
 simp only at hgo |-
 unfold zAI.l1
 rw [hf]
 refine W.run_if (fun c=>?_) (fun c=>hbrk _ ?_)
 ·have htn:t<n:=by omega
  have hp:=zDn (a:=(t:Int)) (b:=(u:Int)) (by omega) (by omega)
  have hp2:=zDn (a:=(t:Int)+1) (b:=(u:Int)) (by omega) (by omega)
  have hle:t*u+u<=n*u:=by rw [<- Nat.succ_mul];exact Nat.mul_le_mul_right u htn
  refine W.req_i (by show _/\_;omega) (W.req_i (by show _/\_;omega) (W.req_i (zIB (zDC _ _) htn) ?_))
  rw [zIN,zHS z hle]
  refine W.bd (zFc (by rw [zDC];omega) (W.req_i (by rw [zHT];omega) (hgo _ ⟨t+1,by simp,by omega,(zIP t u z).symm⟩ (by simp;omega))))
 ·obtain rfl:t=n:=by omega
  exact H
theorem zHn {m:List (List zAF)} {v:List zAF} {q:zAF} (ok:PlOk a b x goal w k u n) (hm:QM m (n*u) (n*u) (plMM a b w k u n)) (hv:QL v (n*u) (plVV a b x goal k u n)) (hq:QRep q (plqq a b x goal k u n)) (H:∀ o,PlanG a b x goal w k u n o->Q o):(zAI.j6 v ((n*u:Nat):Int) q (n:Int) (u:Int) m).run Q:=by
 have hnu:=ok.nu
 have n6:=ok.n6
 have hsz:=szC_pl (show 123300<=123300 by omega) hnu
 unfold zAI.j6
 refine W.bd (zFW (Z:=fun j M=>CdM (n*u) (n*u+1) (szC 123300 j) M) (t0:=szC 123300 (n*u)) hm hv (by omega) (by omega) ok.cdM Grows.cd (fun out z k1 k2 k3=>?_) (fun z h1 h2=>?_))
 ·obtain ⟨M',k3,k4⟩:=k3
  have sz:∀ i,i<n*u->Sz 505100000 (z i):=fun i hi=>by rw [k4 i hi];exact (k3.sz i (n*u) hi (by omega)).mono hsz
  refine W.bd (zHl (S:=⟨((n*u:Nat):Int),m,v,q⟩) ⟨rfl,hm,hv,hq⟩ hnu k1 ok.small sz fun o ho=>W.bd (zHk k1 (by omega) ho (fun t1 t2=>?_) (fun t=>?_)))
  ·rw [if_neg (by simp)]
   exact zHK (flat:=(_,_,_)) n6 ok.le.2 rfl (H _ ⟨z,k2,.inl ⟨⟨t1,t2⟩,rfl⟩⟩)
  ·rw [if_pos (by simp)]
   exact H _ ⟨z,k2,.inr ⟨t,rfl⟩⟩
 ·obtain ⟨f,hf,hz⟩:=h1
  exact absurd (pl_pos ok.wpos h2 f hf) hz
theorem zHN {N:Nat} (hN:n*u=N) (ok:PlOk a b x goal w k u n) {m:List (List zAF)} {v:List zAF} {q:zAF} (hm:QM m N N (fun c e=>sm k (fun i=>plGG a b k u n i c*plGG a b k u n i e))) (hv:QL v N (plVV a b x goal k u n)) (hq:QRep q (plqq a b x goal k u n)) (H:∀ o,PlanG a b x goal w k u n o->Q o):(zAI.j5 (n:Int) (u:Int) w (N:Int) m v q).run Q:=by
 have hN12:N<=12:=by have:=ok.nu;omega
 have e0:(n:Int)*(u:Int)=(N:Int):=by rw [<- hN];simp
 have hk:=ok.le.1
 unfold zAI.j5
 rw [e0]
 refine W.req_i (by show _/\_;omega) ?_
 refine W.loop_c (fun s:List (List zAF)×Int=>∃ i:Nat,s.2=i/\i<=N/\QM s.1 N N (fun c e=>sm k (fun i=>plGG a b k u n i c*plGG a b k u n i e)+if c=e/\c<i then ratOf w else 0)) (fun s=>N - s.2.toNat) ⟨0,rfl,Nat.zero_le _,hm.congr fun c e _ _=>by rw [if_neg (by omega),Rat.add_zero]⟩ ?_
 rintro ⟨m2,_⟩ P ⟨i,rfl,hi,h1⟩ hgo hbrk hout
 simp only at h1 hgo |-
 have h1l:=h1.1
 unfold zAI.l2
 rw [e0]
 simp only [zCE]
 refine W.run_if (fun c=>?_) (fun c=>hbrk _ ?_)
 ·have hiN:i<N:=by omega
  have hrow:=h1.2 i hiN
  have hrl:=hrow.1
  have hcell:=hrow.2 i hiN
  dsimp only at hcell
  rw [if_neg (by omega),Rat.add_zero] at hcell
  have sg:Sz 1000000 (sm k (fun j=>plGG a b k u n j i*plGG a b k u n j i)):=(Sz.sm fun j hj=>(ok.g_sz (Nat.le_refl n) hj (by omega)).mul (ok.g_sz (Nat.le_refl n) hj (by omega))).mono (by omega)
  refine W.req_i (by omega) (W.req_i (by omega) (W.req_i (by omega) (W.bd (zC5 ok.vw fun y hy=>W.bd (zBr hcell hy (sg.ok (by omega)) (ok.vw.sz.ok (by omega)) fun z hz=>W.req_i (by omega) (hgo _ ⟨i+1,by simp,by omega,?_⟩ (by simp;omega)))))))
  simp only [Int.toNat_natCast]
  refine (h1.set (hrow.set hz)).congr fun p e _ _=>?_
  dsimp only
  by_cases e1:p=i
  ·rw [if_pos e1]
   by_cases e2:e=i
   ·rw [if_pos e2,if_pos (by omega),e1,e2]
   ·rw [if_neg e2,if_neg (by omega),if_neg (by omega),e1]
  ·rw [if_neg e1]
   have:(p=e/\p<i+1) ↔ (p=e/\p<i):=by omega
   simp only [this]
 ·obtain rfl:i=N:=by omega
  subst hN
  refine zHn ok (h1.congr fun c e hc _=>?_) hv hq H
  have:(c=e/\c<n*u) ↔ (c=e):=by omega
  simp only [this]
  rfl
theorem zHL {N:Nat} (hN:n*u=N) (ok:PlOk a b x goal w k u n) {s:List zAF} {g:List (List zAF)} (hs:QL s k (plS a b x k u n)) (hg:QM g k N (plGG a b k u n)) (H:∀ o,PlanG a b x goal w k u n o->Q o):(zAI.j4 (n:Int) (u:Int) (k:Int) goal w s g).run Q:=by
 obtain ⟨hk,hu⟩:=ok.le
 have hN12:N<=12:=by have:=ok.nu;omega
 have e0:(n:Int)*(u:Int)=(N:Int):=by rw [<- hN];simp
 have hsl:=hs.1
 have hgl:=hg.1
 have hgoal:=ok.gl
 obtain ⟨dl,l0,l1,l2⟩:=ok.l_fd
 have sl:∀ i,i<k->Sz 41400 (plL a b x goal k u n i):=fun i hi=>(l2 i hi).sz l0 l1
 have sg:∀ i c,i<k->c<N->Sz 41400 (plGG a b k u n i c):=fun i c hi hc=>(ok.g_sz (Nat.le_refl n) hi (by omega)).mono (by omega)
 unfold zAI.j4
 rw [e0]
 refine W.req_i (by show _/\_;omega) (W.bd (zFr (n:=N) (by omega) fun S s1 s2 s3 s4=>?_))
 refine W.loop_c (fun s':Int×List (List zAF)×List zAF×zAF×Int=>∃ i:Nat,s'.2.2.2.2=i/\i<=k/\Sums ⟨s'.1,s'.2.1,s'.2.2.1,s'.2.2.2.1⟩ N (fun c e=>sm i (fun j=>plGG a b k u n j c*plGG a b k u n j e)) (fun c=>sm i (fun j=>plGG a b k u n j c*plL a b x goal k u n j)) (sm i (fun j=>plL a b x goal k u n j*plL a b x goal k u n j))) (fun s=>k - s.2.2.2.2.toNat) ⟨0,rfl,Nat.zero_le _,⟨s1,s2,s3,s4⟩⟩ ?_
 rintro ⟨nn,M,V,q,_⟩ P ⟨i,rfl,hi,h1⟩ hgo hbrk hout
 simp only at h1 hgo |-
 unfold zAI.l3
 refine W.run_if (fun c=>?_) (fun c=>hbrk _ ?_)
 ·have hik:i<k:=by omega
  simp only [zCE]
  refine W.req_i (by omega) (W.req_i (by omega) (W.req_i (by omega) (W.bd (zC5 (ok.gv i hik) fun y hy=>W.bd (zEI hy (hs.2 i hik) ((ok.gv i hik).sz.ok (by omega)) ((ok.s_sz (Nat.le_refl n) hik).ok (by omega)) fun l hl=>W.bd (zES (n:=N) (s:=1000000) (t:=41400) h1.hn (by omega) h1.hm h1.hv h1.hq (hg.2 i hik) hl (by omega) (by omega) (fun c e hc he=>?_) (fun c hc=>?_) ?_ (fun c hc=>sg i c hik hc) (sl i hik) fun S' k1 k2 k3 k4=>hgo _ ⟨i+1,by simp,by omega,⟨k1,k2,k3,k4⟩⟩ (by simp;omega)))))))
  ·exact (Sz.sm fun j hj=>(sg j c (by omega) hc).mul (sg j e (by omega) he)).mono (by omega)
  ·exact (Sz.sm fun j hj=>(sg j c (by omega) hc).mul (sl j (by omega))).mono (by omega)
  ·exact (Sz.sm fun j hj=>(sl j (by omega)).mul (sl j (by omega))).mono (by omega)
 ·obtain rfl:i=k:=by omega
  have hnn:nn=(N:Int):=h1.hn
  subst hnn
  exact zHN hN ok h1.hm h1.hv h1.hq H
theorem zID {A B:Nat->Nat->Rat} {t i c:Nat} :plG k u A B (t+1) i c=sm k (fun j=>A i j*plG k u A B t j c)+sm u (fun j=>B i j*unitV c (t*u+j)):=rfl
theorem plG_in {A B:Nat->Nat->Rat} {t i c:Nat} (hc:c<u):plG k u A B (t+1) i (t*u+c)=sm k (fun j=>A i j*plG k u A B t j (t*u+c))+B i c:=by
 rw [zID,zIb (f:=B i) (by rw [Nat.add_mul];omega),if_pos (by omega),Nat.add_sub_cancel_left]
theorem plG_out {A B:Nat->Nat->Rat} {t i c:Nat} (hc:c<t*u\/t*u+u<=c):plG k u A B (t+1) i c=sm k (fun j=>A i j*plG k u A B t j c):=by
 rw [zID]
 rcases hc with hc | hc
 ·rw [zIb (f:=B i) (by rw [Nat.add_mul];omega),if_neg (by omega),Rat.add_zero]
 ·rw [sm_unit0 (f:=B i) (by rw [Nat.add_mul];omega),Rat.add_zero]
theorem zHo {N t:Nat} (hN:n*u=N) (ok:PlOk a b x goal w k u n) (htn:t<n) {next:List (List zAF)} {r:List zAF} {P:Ctl (List zAF×List (List zAF)×Int) ToldP->Prop} (hz:QM next k N (fun i c=>sm k (fun j=>mxv a.V k i j*plG k u (mxv a.V k) (mxv b.V u) t j c)))
  (H:∀ g',QM g' k N (plG k u (mxv a.V k) (mxv b.V u) (t+1))->P (.go (r,g',(t:Int)+1))):(zAI.j10 (k:Int) (u:Int) (t:Int) b r next).run P:=by
 obtain ⟨hk,hu⟩:=ok.le
 have hN12:N<=12:=by have:=ok.nu;omega
 have n6:=ok.n6
 have htu:t*u+u<=N:=by rw [<- hN,<- Nat.succ_mul];exact Nat.mul_le_mul_right u htn
 have hp:=zDn (a:=(t:Int)) (b:=(u:Int)) (by omega) (by omega)
 obtain ⟨hbl,hbv⟩:=ok.bv
 unfold zAI.j10
 refine W.loop_c (fun s:List (List zAF)×Int=>∃ i:Nat,s.2=i/\i<=k/\QM s.1 k N (fun i' c'=>if i'<i then plG k u (mxv a.V k) (mxv b.V u) (t+1) i' c' else sm k (fun j=>mxv a.V k i' j*plG k u (mxv a.V k) (mxv b.V u) t j c'))) (fun s=>k - s.2.toNat) ⟨0,rfl,Nat.zero_le _,hz.congr fun i c _ _=>by rw [if_neg (by omega)]⟩ ?_
 rintro ⟨nx,_⟩ P2 ⟨i,rfl,hi,h1⟩ hgo hbrk hout
 simp only at h1 hgo |-
 unfold zAI.l5
 refine W.run_if (fun c0=>?_) (fun c0=>hbrk _ ?_)
 ·have hik:i<k:=by omega
  have hp2:=zDn (a:=(i:Int)) (b:=(u:Int)) (by omega) (by omega)
  refine W.loop_c (fun s:List (List zAF)×Int=>∃ c:Nat,s.2=c/\c<=u/\QM s.1 k N (fun i' c'=>if i'<i\/i'=i/\t*u<=c'/\c'<t*u+c then plG k u (mxv a.V k) (mxv b.V u) (t+1) i' c' else sm k (fun j=>mxv a.V k i' j*plG k u (mxv a.V k) (mxv b.V u) t j c'))) (fun s=>u - s.2.toNat) ⟨0,rfl,Nat.zero_le _,h1.congr fun i' c' _ _=>?_⟩ ?_
  ·have:(i'<i\/i'=i/\t*u<=c'/\c'<t*u+0) ↔ (i'<i):=by omega
   simp only [this]
  rintro ⟨n2,_⟩ P3 ⟨c,rfl,hc,k1⟩ hgo2 hbrk2 hout2
  simp only at k1 hgo2 |-
  have k1l:=k1.1
  unfold zAI.l6
  refine W.run_if (fun c2=>?_) (fun c2=>hbrk2 _ ?_)
  ·have hcu:c<u:=by omega
   have hat:=at_lt hik hcu
   have e1:(t:Int)*(u:Int)+(c:Int)=((t*u+c:Nat):Int):=by simp
   have e2:(i:Int)*(u:Int)+(c:Int)=((i*u+c:Nat):Int):=by simp
   rw [e1,e2]
   simp only [zCE]
   have hrow:=k1.2 i hik
   have hrl:=hrow.1
   have hcell:=hrow.2 (t*u+c) (by omega)
   dsimp only at hcell
   rw [if_neg (by omega)] at hcell
   have s1:Sz 40 (mxv b.V u i c):=(hbv i c hik hcu).sz
   have s2:Sz 1000000 (sm k (fun j=>mxv a.V k i j*plG k u (mxv a.V k) (mxv b.V u) t j (t*u+c))):=(Sz.sm fun j hj=>(show Sz 40 (mxv a.V k i j) from (ok.av.2 i j hik hj).sz).mul (ok.g_sz (Nat.le_of_lt htn) hj (by omega))).mono (by omega)
   refine W.req_i (by omega) (W.req_i (by show _/\_;omega) (W.req_i (by show _/\_;omega) (W.req_i (by omega) (W.req_i (by show _/\_;omega) (W.req_i (by show _/\_;omega) (W.req_i (by omega) (W.req_i (by show _/\_;omega) (W.req_i (by show _/\_;omega) (W.req_i (by omega) (W.bd (zC5 (hbv i c hik hcu) fun y hy=>W.bd (zBr hcell hy (s2.ok (by omega)) (s1.ok (by omega)) fun z hz2=>W.req_i (by omega) (hgo2 _ ⟨c+1,by simp,by omega,?_⟩ (by simp;omega)))))))))))))) 
   simp only [Int.toNat_natCast]
   refine (k1.set (hrow.set hz2)).congr fun i' c' _ _=>?_
   dsimp only
   by_cases e3:i'=i
   ·rw [if_pos e3]
    by_cases e4:c'=t*u+c
    ·rw [if_pos e4,if_pos (by omega),e3,e4,plG_in hcu]
     rfl
    ·have:(i'<i\/i'=i/\t*u<=c'/\c'<t*u+(c+1)) ↔ (i<i\/i=i/\t*u<=c'/\c'<t*u+c):=by omega
     rw [if_neg e4];simp only [this];rw [e3]
   ·have:(i'<i\/i'=i/\t*u<=c'/\c'<t*u+(c+1)) ↔ (i'<i\/i'=i/\t*u<=c'/\c'<t*u+c):=by omega
    rw [if_neg e3];simp only [this]
  ·obtain rfl:c=u:=by omega
   unfold zAI.j12
   refine hgo _ ⟨i+1,by simp,by omega,k1.congr fun i' c' _ _=>?_⟩ (by simp;omega)
   by_cases e3:i'<i
   ·rw [if_pos (.inl e3),if_pos (by omega)]
   ·by_cases e4:i'=i
    ·rw [if_pos (show i'<i+1 by omega)]
     by_cases e5:t*c<=c'/\c'<t*c+c
     ·rw [if_pos (.inr ⟨e4,e5⟩)]
     ·rw [if_neg (by omega),plG_out (by omega)]
    ·rw [if_neg (by omega),if_neg (by omega)]
 ·obtain rfl:i=k:=by omega
  unfold zAI.j11 zAI.j8
  exact H _ (h1.congr fun i' c' hi' _=>by rw [if_pos hi'])
theorem zHM {N t:Nat} (hN:n*u=N) (ok:PlOk a b x goal w k u n) (htn:t<n) {g2 next:List (List zAF)} {r:List zAF} {P:Ctl (List zAF×List (List zAF)×Int) ToldP->Prop} (hg:QM g2 k N (plG k u (mxv a.V k) (mxv b.V u) t)) (hz:QM next k N (fun _ _=>0))
  (H:∀ g',QM g' k N (plG k u (mxv a.V k) (mxv b.V u) (t+1))->P (.go (r,g',(t:Int)+1))):(zAI.j9 (n:Int) (u:Int) (k:Int) g2 a (t:Int) b r next).run P:=by
 obtain ⟨hk,hu⟩:=ok.le
 have hN12:N<=12:=by have:=ok.nu;omega
 have e0:(n:Int)*(u:Int)=(N:Int):=by rw [<- hN];simp
 have hgl:=hg.1
 unfold zAI.j9
 rw [e0]
 refine W.req_i (by show _/\_;omega) ?_
 refine W.loop_c (fun s:List (List zAF)×Int=>∃ c:Nat,s.2=c/\c<=N/\QM s.1 k N (fun i c'=>if c'<c then sm k (fun j=>mxv a.V k i j*plG k u (mxv a.V k) (mxv b.V u) t j c') else 0)) (fun s=>N - s.2.toNat) ⟨0,rfl,Nat.zero_le _,hz.congr fun i c _ _=>by rw [if_neg (by omega)]⟩ ?_
 rintro ⟨nx,_⟩ P2 ⟨c,rfl,hc,h1⟩ hgo hbrk hout
 simp only at h1 hgo |-
 unfold zAI.l7
 rw [e0]
 refine W.run_if (fun c1=>?_) (fun c1=>hbrk _ ?_)
 ·have hcN:c<N:=by omega
  refine W.req_i (by omega) ?_
  refine W.loop_c (fun s:List zAF×Int=>∃ i:Nat,s.2=i/\i<=k/\s.1.length=k/\∀ p,p<i->QRep (gd s.1 p) (plG k u (mxv a.V k) (mxv b.V u) t p c)) (fun s=>k - s.2.toNat) ⟨0,rfl,Nat.zero_le _,by simp,fun p hp=>by omega⟩ ?_
  rintro ⟨col,_⟩ P3 ⟨i,rfl,hi,k1,k2⟩ hgo2 hbrk2 hout2
  simp only at k1 k2 hgo2 |-
  unfold zAI.l9
  simp only [zCE]
  refine W.run_if (fun c2=>?_) (fun c2=>hbrk2 _ ?_)
  ·have hik:i<k:=by omega
   have hrow:=hg.2 i hik
   have hrl:=hrow.1
   refine W.req_i (by omega) (W.req_i (by omega) (W.req_i (by omega) (hgo2 _ ⟨i+1,by simp,by omega,by simp [k1],fun p hp=>?_⟩ (by simp;omega))))
   simp only [Int.toNat_natCast]
   rw [zCz]
   by_cases e:i=p
   ·subst e;rw [if_pos ⟨rfl,by omega⟩];exact hrow.2 c hcN
   ·rw [if_neg (by omega)];exact k2 p (by omega)
  ·obtain rfl:i=k:=by omega
   unfold zAI.j14
   refine W.bd (zEv (f:=fun p=>plG i u (mxv a.V i) (mxv b.V u) t p c) (s:=40900) hk ok.av.1 ok.av.2 ⟨k1,k2⟩ (by omega) (fun p hp=>ok.g_sz (Nat.le_of_lt htn) hp (by omega)) fun r2 hr2=>?_)
   have hrl:=hr2.1
   refine W.loop_c (fun s:List (List zAF)×Int=>∃ p:Nat,s.2=p/\p<=i/\QM s.1 i N (fun i' c'=>if c'<c\/c'=c/\i'<p then sm i (fun j=>mxv a.V i i' j*plG i u (mxv a.V i) (mxv b.V u) t j c') else 0)) (fun s=>i - s.2.toNat) ⟨0,rfl,Nat.zero_le _,h1.congr fun i' c' _ _=>?_⟩ ?_
   ·have:(c'<c\/c'=c/\i'<0) ↔ (c'<c):=by omega
    simp only [this]
   rintro ⟨n3,_⟩ P4 ⟨p,rfl,hp,m1⟩ hgo3 hbrk3 hout3
   simp only at m1 hgo3 |-
   have m1l:=m1.1
   unfold zAI.l8
   simp only [zCE,hrl]
   refine W.run_if (fun c3=>?_) (fun c3=>hbrk3 _ ?_)
   ·have hpi:p<i:=by omega
    have hrow:=m1.2 p hpi
    have hrl2:=hrow.1
    refine W.req_i (by omega) (W.req_i (by omega) (W.req_i (by omega) (hgo3 _ ⟨p+1,by simp,by omega,?_⟩ (by simp;omega))))
    simp only [Int.toNat_natCast]
    refine (m1.set (hrow.set (hr2.2 p hpi))).congr fun i' c' _ _=>?_
    dsimp only
    by_cases e3:i'=p
    ·subst e3
     rw [if_pos rfl]
     by_cases e4:c'=c
     ·subst e4;rw [if_pos rfl,if_pos (by omega)]
     ·have:(c'<c\/c'=c/\i'<i'+1) ↔ (c'<c\/c'=c/\i'<i'):=by omega
      rw [if_neg e4];simp only [this]
    ·have:(c'<c\/c'=c/\i'<p+1) ↔ (c'<c\/c'=c/\i'<p):=by omega
     rw [if_neg e3];simp only [this]
   ·obtain rfl:p=i:=by omega
    unfold zAI.j13
    refine hgo _ ⟨c+1,by simp,by omega,m1.congr fun i' c' hi' _=>?_⟩ (by simp;omega)
    have:(c'<c\/c'=c/\i'<p) ↔ (c'<c+1):=by omega
    simp only [this]
 ·obtain rfl:c=N:=by omega
  exact zHo hN ok htn (h1.congr fun i c' _ hc'=>by rw [if_pos hc']) H
theorem zGr {N:Nat} (hN:n*u=N) (ok:PlOk a b x goal w k u n) {s:List zAF} {g:List (List zAF)} (hs:QL s k (fun i=>ratOf (gd x i))) (hg:QM g k N (fun _ _=>0)) (H:∀ o,PlanG a b x goal w k u n o->Q o):(zAI.j3 (n:Int) (k:Int) a (u:Int) b s goal w g).run Q:=by
 obtain ⟨hk,hu⟩:=ok.le
 have hN12:N<=12:=by have:=ok.nu;omega
 have e0:(n:Int)*(u:Int)=(N:Int):=by rw [<- hN];simp
 unfold zAI.j3
 refine W.loop_c (fun s:List zAF×List (List zAF)×Int=>∃ t:Nat,s.2.2=t/\t<=n/\QL s.1 k (endV k u (mxv a.V k) (mxv b.V u) (fun i=>ratOf (gd x i)) (fun _=>0) t)/\QM s.2.1 k N (plG k u (mxv a.V k) (mxv b.V u) t)) (fun s=>n - s.2.2.toNat) ⟨0,rfl,Nat.zero_le _,hs,hg⟩ ?_
 rintro ⟨s2,g2,_⟩ P ⟨t,rfl,ht,h1,h2⟩ hgo hbrk hout
 simp only at h1 h2 hgo |-
 unfold zAI.l4
 refine W.run_if (fun c=>?_) (fun c=>hbrk _ ?_)
 ·have htn:t<n:=by omega
  refine W.bd (zEv (s:=40899) hk ok.av.1 ok.av.2 h1 (by omega) (fun i hi=>ok.s_sz ht hi) fun r hr=>W.req_i (by omega) ?_)
  refine W.loop_c (fun s:List (List zAF)×Int=>∃ i:Nat,s.2=i/\i<=k/\s.1.length=k/\∀ p,p<i->QL (gd s.1 p) N (fun _=>0)) (fun s=>k - s.2.toNat) ⟨0,rfl,Nat.zero_le _,by simp,fun p hp=>by omega⟩ ?_
  rintro ⟨nx,_⟩ P2 ⟨i,rfl,hi,k1,k2⟩ hgo2 hbrk2 hout2
  simp only at k1 k2 hgo2 |-
  unfold zAI.l10
  rw [List.length_replicate,Int.toNat_natCast,e0]
  refine W.run_if (fun c2=>W.req_i (by show _/\_;omega) (W.bd (zCx (n:=N) (by omega) fun z hz=>W.req_i (by omega) (hgo2 _ ⟨i+1,by simp,by omega,by simp [k1],fun p hp=>?_⟩ (by simp;omega))))) (fun c2=>hbrk2 _ ?_)
  ·simp only [Int.toNat_natCast]
   rw [zCz]
   by_cases e:i=p
   ·subst e;rw [if_pos ⟨rfl,by omega⟩];exact hz
   ·rw [if_neg (by omega)];exact k2 p (by omega)
  ·obtain rfl:i=k:=by omega
   refine zHM hN ok htn h2 ⟨k1,k2⟩ fun g' hg'=>hgo _ ⟨t+1,by simp,by omega,hr.congr fun i' _=>?_,hg'⟩ (by simp;omega)
   show _=sm i _+sm u (fun j=>mxv b.V u i' j*(0:Rat))
   rw [zDK (f:=fun j=>mxv b.V u i' j*(0:Rat)) (fun j _=>by grind),Rat.add_zero]
 ·obtain rfl:t=n:=by omega
  exact zHL hN ok h1 h2 H
end
end Go.Proofs.Ytlmpoindlejefaa.E
