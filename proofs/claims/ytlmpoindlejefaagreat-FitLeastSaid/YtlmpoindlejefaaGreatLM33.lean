/- Joined. -/
import Derived.Test.YtlmpoindlejefaaGreatLM30
set_option linter.unusedVariables false
set_option linter.unusedSimpArgs false
namespace Go.Proofs.YtlmpoindlejefaaGreat.E
open Go Go.RowKit
theorem valid.fd {x:api_Rat} (h:valid x):x.D≠0/\x.D.natAbs<2 ^ 40/\Fd x.D 40 (ratOf x):=by
 obtain ⟨h1,h2,h3,h4,h5⟩:=h
 exact ⟨by omega,by omega,x.N,by unfold ratOf;rw [Rat.divInt_eq_div],by omega⟩
theorem cd_list (f:Nat->api_Rat):∀ n,(∀ k,k<n->valid (f k))->∃ d:Int,d≠0/\d.natAbs<2 ^ (40*n+1)/\∀ k,k<n->Fd d (40*n+1) (ratOf (f k))
 | 0,_=>⟨1,by decide,by decide,fun k hk=>by omega⟩
 | n+1,h=>by
  obtain ⟨d,h0,h1,h2⟩:=cd_list f n fun k hk=>h k (by omega)
  obtain ⟨e0,e1,e2⟩:=(h n (Nat.lt_succ_self _)).fd
  refine ⟨d*(f n).D,Int.mul_ne_zero h0 e0,bits_mono (bits_mul h1 e1) (by omega),fun k hk=>?_⟩
  by_cases e:k=n
  ·subst e
   have:=e2.up (e:=d) e0 h0 h1
   rw [Int.mul_comm] at this
   exact this.mono (by omega)
  ·exact ((h2 k (by omega)).up h0 e0 e1).mono (by omega)
section
variable {v b:List api_Rat} {r c:Nat}
theorem sums_cd (hr:r<=12) (hc:c<=12) (hv:∀ j i,j<r->i<c->valid (gd v (j*c+i))) (hb:∀ j,j<r->valid (gd b j)):∃ d:Int,d≠0/\Bt 12560 d/\(∀ i k,i<c->k<c->Fd d 12572 (gA v c r i k))/\∀ i,i<c->Fd d 12572 (gV v b c r i):=by
 obtain ⟨d1,a0,a1,a2⟩:=cd_list (fun k=>gd v k) (r*c) fun k hk=>by
  have hc0:0<c:=Nat.pos_of_ne_zero fun e=>by rw [e] at hk;simp at hk
  have h1:k / c<r:=Nat.div_lt_of_lt_mul (by rw [Nat.mul_comm];exact hk)
  have:=hv (k / c) (k % c) h1 (Nat.mod_lt _ hc0)
  rwa [Nat.mul_comm,Nat.div_add_mod] at this
 obtain ⟨d2,b0,b1,b2⟩:=cd_list (fun k=>gd b k) r hb
 have hrc:r*c<=12*12:=Nat.mul_le_mul hr hc
 have m1:∀ j i,j<r->i<c->Fd (d1*d2) 6280 (mxv v c j i):=fun j i hj hi=>((a2 _ (at_lt hj hi)).up a0 b0 b1).mono (by omega)
 have m2:∀ j,j<r->Fd (d1*d2) 6280 (ratOf (gd b j)):=fun j hj=>by
  have:=(b2 j hj).up (e:=d1) b0 a0 a1
  rw [Int.mul_comm] at this
  exact this.mono (by omega)
 have n0:d1*d2≠0:=Int.mul_ne_zero a0 b0
 have n1:Bt 6280 (d1*d2):=Bt.mono (Bt.mul a1 b1) (by omega)
 refine ⟨d1*d2*(d1*d2),Int.mul_ne_zero n0 n0,(n1.mul n1).mono (by omega),fun i k hi hk=>?_,fun i hi=>?_⟩
 ·exact (Fd.sm fun j hj=>(m1 j i hj hi).mul (m1 j k hj hk) n0 n0).mono (by omega)
 ·exact (Fd.sm fun j hj=>(m1 j i hj hi).mul (m2 j hj) n0 n0).mono (by omega)
theorem sums_cdM (hr:r<=12) (hc:c<=12) (hv:∀ j i,j<r->i<c->valid (gd v (j*c+i))) (hb:∀ j,j<r->valid (gd b j)):CdM c (c+1) 12572 (augM c (gA v c r) (gV v b c r)):=by
 obtain ⟨d,h0,h1,h2,h3⟩:=sums_cd hr hc hv hb
 exact CdM.mk' h0 h1 (by omega) (augM_all h2 h3)
theorem square_cdM (hr:r<=12) (hc:c<=12) (hv:∀ j i,j<r->i<c->valid (gd v (j*c+i))) (hb:∀ j,j<r->valid (gd b j)):CdM c (c+1) 25160 (augM c (fun i k=>sm c (fun l=>gA v c r i l*gA v c r l k)) (gV v b c r)):=by
 obtain ⟨d,h0,h1,h2,h3⟩:=sums_cd hr hc hv hb
 refine CdM.mk' (Int.mul_ne_zero h0 h0) (h1.mul h1) (by omega) (augM_all (P:=Fd (d*d) 25160) (fun i k hi hk=>?_) (fun i hi=>?_))
 ·exact (Fd.sm fun l hl=>(h2 i l hi hl).mul (h2 l k hl hk) h0 h0).mono (by omega)
 ·exact ((h3 i hi).up h0 h0 h1).mono (by omega)
end
theorem szC_12 {s n:Nat} (hs:s<=25160) (hn:n<=12):szC s n<=103100000:=by
 have h1:=szC_mono s hn
 have h2:szC s 12<=103100000:=by simp only [szC];omega
 omega
end Go.Proofs.YtlmpoindlejefaaGreat.E
namespace Go.Proofs.YtlmpoindlejefaaGreat.E
open Go Go.RowKit
theorem QM.snoc {l:List (List num_Q)} {r c:Nat} {f:Nat->Nat->Rat} (h:QM l r c f) {x:List num_Q} (hx:QL x c (f r)):QM (l ++ [x]) (r+1) c f:=by
 refine ⟨by simp [h.1],fun i hi=>?_⟩
 rw [gd_app]
 by_cases e:i<r
 ·rw [if_pos (by rw [h.1];exact e)];exact h.2 i e
 ·obtain rfl:i=r:=by omega
  rw [if_neg (by rw [h.1];omega),h.1,Nat.sub_self];exact hx
theorem fit_made_rows_run {m:api_Mat} {b:List api_Rat} {r c:Nat} {Q:fit_problem->Prop} (hm:matOk m) (hR:m.R=r) (hC:m.C=c) (hb:b.length=r) (vb:∀ k,k<r->valid (gd b k)) (H:∀ P:fit_problem,Sums P.sums c (gA m.V c r) (gV m.V b c r) (gq b r)->QM P.rows r c (mxv m.V c)->Q P):(fit_made.f m b).run Q:=by
 obtain ⟨hl,hv⟩:=hm.at hR hC
 have hr12:r<=12:=by have:=hm.1;omega
 have hc12:c<=12:=by have:=hm.2.1;omega
 unfold fit_made.f
 rw [hC]
 refine W.bd (fit_none_run (n:=c) (by omega) fun S hS1 hS2 hS3 hS4=>W.bd (num_In_run hb (by omega) (fun k hk=>⟨vb k hk,rfl⟩) fun B hB=>?_))
 refine W.loop_c (fun s:Int×List (List num_Q)×List num_Q×num_Q×List (List num_Q)×List num_Q×Int=>∃ i:Nat,s.2.2.2.2.2.2=i/\i<=r/\QM s.2.2.2.2.1 i c (mxv m.V c)/\s.2.2.2.2.2.1=B/\Sums ⟨s.1,s.2.1,s.2.2.1,s.2.2.2.1⟩ c (gA m.V c i) (gV m.V b c i) (gq b i)) (fun s=>r - s.2.2.2.2.2.2.toNat) ⟨0,rfl,Nat.zero_le _,⟨rfl,fun i hi=>by omega⟩,rfl,⟨hS1,hS2,hS3,hS4⟩⟩ ?_
 rintro ⟨n,M,v,q,rows,_,_⟩ P ⟨i,rfl,hi,h1,rfl,h2⟩ hgo hbrk hout
 simp only at h1 h2 hB hgo |-
 have h1l:=h1.1
 unfold fit_made.l1
 rw [hR,hC]
 refine W.run_if (fun c1=>?_) (fun c1=>hbrk _ ?_)
 ·have hir:i<r:=by omega
  have hp:=mul_in (a:=(i:Int)) (b:=(c:Int)) (by omega) (by omega)
  have hp2:=mul_in (a:=(i:Int)+1) (b:=(c:Int)) (by omega) (by omega)
  refine W.req_i (by show _/\_;omega) (W.req_i (by show _/\_;omega) (W.req_i (row_in hl hir) ?_))
  rw [cut_eq]
  refine W.bd (num_In_run (n:=c) (f:=mxv m.V c i) (cut_len hl hir) (by omega) (fun k hk=>?_) fun ro hro=>?_)
  ·rw [gd_cut _ _ _ _ hk];exact ⟨hv i k hir hk,rfl⟩
  have e:gi (rows ++ [ro]) (i:Int)=ro:=by rw [gi_gd,gd_app,if_neg (by omega),h1l,Nat.sub_self];rfl
  have hBl:=hB.1
  rw [e,gi_gd]
  have z:=g_small (n:=i) hr12 hi hv vb
  exact W.req_i (by omega) (W.req_i (by simp;omega) (W.req_i (by omega) (W.bd (fit_sums_add_run (n:=c) (s:=973) (t:=40) h2.hn (by omega) h2.hm h2.hv h2.hq hro (hB.2 i hir) (by omega) (by omega) z.a z.v z.q (fun a ha=>(hv i a hir ha).sz) (vb i hir).sz fun S' k1 k2 k3 k4=>hgo _ ⟨i+1,by simp,by omega,h1.snoc hro,rfl,⟨k1,k2,k3,k4⟩⟩ (by simp;omega)))))
 ·obtain rfl:i=r:=by omega
  unfold fit_made.j1
  exact H _ h2 h1
theorem fit_Nearest_rows {P:fit_problem} {n:Nat} {A:Nat->Nat->Rat} {V:Nat->Rat} {q:Rat} {Q:List api_Rat×api_Rat×Int->Prop} (hS:Sums P.sums n A V q) (hn:n<=12) (z:Small 973 n A V q) (H:∀ rows,QM rows n (n+1) (augM n (fun i k=>sm n fun l=>A i l*A l k) V)->(fit_Nearest.j1 P rows).run Q) :
  (W.bind (W.loop (fun (s:List (List num_Q)×Int)=>fit_Nearest.l3 P s.1 s.2) (List.replicate P.sums.n.toNat ([]:List num_Q),0)) (Lp.on (fun s=>fit_Nearest.j1 P s.1) (fun r=>W.ret r))).run Q:=by
 have hml:=hS.hm.1
 have hvl:=hS.hv.1
 generalize hB:(fun i k=>sm n fun l=>A i l*A l k)=B at H
 have hB':∀ i k,B i k=sm n fun l=>A i l*A l k:=fun i k=>by rw [<- hB]
 rw [hS.hn,Int.toNat_natCast]
 refine W.loop_c (fun s:List (List num_Q)×Int=>∃ i:Nat,s.2=i/\i<=n/\s.1.length=n/\∀ a,a<i->QL (gd s.1 a) (n+1) (augM n B V a)) (fun s=>n - s.2.toNat) ⟨0,rfl,Nat.zero_le _,by simp,fun a ha=>by omega⟩ ?_
 rintro ⟨rows,_⟩ P1 ⟨i,rfl,hi,h1,h2⟩ hgo hbrk hout
 simp only at h1 h2 hgo |-
 unfold fit_Nearest.l3
 simp only [hS.hn]
 refine W.run_if (fun c1=>?_) (fun c1=>hbrk _ (H _ ⟨h1,fun a ha=>h2 a (by omega)⟩))
 have hin:i<n:=by omega
 refine W.req_i (by show _/\_;omega) ?_
 rw [show (n:Int)+1=((n+1:Nat):Int) from rfl]
 refine W.bd (fit_zeros_run (by omega) fun zr hz=>W.req_i (by omega) ?_)
 simp only [Int.toNat_natCast]
 refine W.loop_c (fun s:List (List num_Q)×Int=>∃ k:Nat,s.2=k/\k<=n/\s.1.length=n/\(∀ a,a<i->QL (gd s.1 a) (n+1) (augM n B V a))/\QL (gd s.1 i) (n+1) (fun k'=>if k'<k then B i k' else 0)) (fun s=>n - s.2.toNat) ⟨0,rfl,Nat.zero_le _,by simp [h1],fun a ha=>?_,?_⟩ ?_
 ·show QL (gd (rows.set i zr) a) _ _
  rw [gd_set,if_neg (by omega)];exact h2 a ha
 ·show QL (gd (rows.set i zr) i) _ _
  rw [gd_set,if_pos ⟨rfl,by omega⟩];exact hz.congr fun j hj=>by rw [if_neg (by omega)]
 rintro ⟨rows2,_⟩ P2 ⟨k,rfl,hk,k1,k2,k3⟩ hgo2 hbrk2 hout2
 simp only at k1 k2 k3 hgo2 |-
 unfold fit_Nearest.l4
 simp only [hS.hn]
 refine W.run_if (fun c2=>?_) (fun c2=>hbrk2 _ ?_)
 ·have hkn:k<n:=by omega
  refine W.loop_c (fun s:List (List num_Q)×Int=>∃ j:Nat,s.2=j/\j<=n/\s.1.length=n/\(∀ a,a<i->QL (gd s.1 a) (n+1) (augM n B V a))/\QL (gd s.1 i) (n+1) (fun k'=>if k'<k then B i k' else if k'=k then sm j (fun l=>A i l*A l k) else 0)) (fun s=>n - s.2.toNat) ⟨0,rfl,Nat.zero_le _,k1,k2,k3.congr fun k' _=>?_⟩ ?_
  ·by_cases e:k'<k
   ·simp [e]
   ·by_cases e2:k'=k
    ·simp [e,e2,sm]
    ·simp [e,e2]
  rintro ⟨rows3,_⟩ P3 ⟨j,rfl,hj,j1,j2,j3⟩ hgo3 hbrk3 hout3
  simp only at j1 j2 j3 hgo3 |-
  unfold fit_Nearest.l5
  simp only [hS.hn,gi_gd]
  refine W.run_if (fun c3=>?_) (fun c3=>hbrk3 _ ?_)
  ·have hjn:j<n:=by omega
   have cell:=j3.2 k (by omega)
   dsimp only at cell
   rw [if_neg (Nat.lt_irrefl _),if_pos rfl] at cell
   have r1:=hS.hm.2 i hin
   have r2:=hS.hm.2 j hjn
   have l0:=j3.1
   have l1:=r1.1
   have l2:=r2.1
   have s1:=z.a i j hin hjn
   have s2:=z.a j k hjn hkn
   have sp:Sz (j*(973+973+1)+1) (sm j (fun l=>A i l*A l k)):=Sz.sm fun l hl=>(z.a i l hin (by omega)).mul (z.a l k (by omega) hkn)
   refine W.req_i (by omega) (W.req_i (by omega) (W.req_i (by omega) (W.req_i (by omega) (W.req_i (by omega) (W.req_i (by omega) (W.req_i (by omega) (W.bd (num_Q_Mul_run (r1.2 j hjn) (r2.2 k hkn) (s1.ok (by omega)) (s2.ok (by omega)) fun x hx=>W.bd (num_Q_Add_run cell hx (sp.ok (by omega)) ((s1.mul s2).ok (by omega)) fun y hy=>W.req_i (by omega) (hgo3 _ ⟨j+1,by simp,by omega,by simp [j1],fun a ha=>?_,?_⟩ (by simp;omega)))))))))))
   ·simp only [Int.toNat_natCast]
    rw [gd_set,if_neg (by omega)];exact j2 a ha
   ·simp only [Int.toNat_natCast]
    rw [gd_set,if_pos ⟨rfl,by omega⟩]
    refine (j3.set hy).congr fun k' hk'=>?_
    by_cases e:k'=k
    ·subst e
     rw [if_pos rfl,if_neg (Nat.lt_irrefl _),if_pos rfl];rfl
    ·simp [e]
  ·obtain rfl:j=n:=by omega
   unfold fit_Nearest.j6
   refine hgo2 _ ⟨k+1,by simp,by omega,j1,j2,j3.congr fun k' hk'=>?_⟩ (by simp;omega)
   by_cases e:k'<k
   ·rw [if_pos e,if_pos (by omega)]
   ·by_cases e2:k'=k
    ·subst e2;rw [if_neg e,if_pos rfl,if_pos (by omega),hB']
    ·rw [if_neg e,if_neg e2,if_neg (by omega)]
 ·obtain rfl:k=n:=by omega
  have l0:=k3.1
  unfold fit_Nearest.j5
  simp only [hS.hn,gi_gd,Int.toNat_natCast]
  refine W.req_i (by omega) (W.req_i (by omega) (W.req_i (by omega) ?_))
  unfold fit_Nearest.j4
  refine hgo _ ⟨i+1,by simp,by omega,by simp [k1],fun a ha=>?_⟩ (by simp;omega)
  rw [gd_set]
  by_cases e:i=a
  ·subst e
   rw [if_pos ⟨rfl,by omega⟩]
   refine (k3.set (hS.hv.2 i hin)).congr fun k' hk'=>?_
   unfold augM
   by_cases e2:k'=k
   ·rw [if_pos e2,if_pos e2]
   ·rw [if_neg e2,if_neg e2,if_pos (by omega)]
  ·rw [if_neg (by omega)];exact k2 a (by omega)
theorem QL.xset {M:Nat->Nat->Rat} {piv:List Int} {c:Nat} {l:List num_Q} {n i:Nat} (h:QL l n (xvp M piv c i)) {q:num_Q} (hq:QRep q (M i c)):QL (l.set (nd piv i) q) n (xvp M piv c (i+1)):=by
 refine (h.set hq).congr fun j hj=>?_
 unfold xvp
 conv=>rhs;unfold pix
 by_cases e:j=nd piv i
 ·rw [if_pos e,if_pos e.symm]
 ·rw [if_neg e,if_neg (fun h=>e h.symm)]
theorem CdM.xfd {M:Nat->Nat->Rat} {piv:List Int} {r c s:Nat} (h:CdM r (c+1) s M) (hl:piv.length<=r):∃ d:Int,d≠0/\d.natAbs<2 ^ s/\∀ q,Fd d s (xvp M piv c piv.length q):=by
 obtain ⟨d,h0,h1,h2⟩:=h
 refine ⟨d,h0,h1,fun q=>?_⟩
 unfold xvp
 cases hp:pix piv q piv.length with
 | none=>exact Fd.zero
 | some a=>exact h2 a c (by have:=(pix_some hp).1;omega) (by omega)
theorem fit_Nearest_tail {P:fit_problem} {n:Nat} {A:Nat->Nat->Rat} {V:Nat->Rat} {q:Rat} {rows:List (List num_Q)} {Q:List api_Rat×api_Rat×Int->Prop} (hS:Sums P.sums n A V q) (hn:n<=12) (z:Small 973 n A V q) (cA:∃ d:Int,d≠0/\Bt 12560 d/\∀ i k,i<n->k<n->Fd d 12572 (A i k)) (hs:∀ i k,A i k=A k i)
  (cB:CdM n (n+1) 25160 (augM n (fun i k=>sm n fun l=>A i l*A l k) V)) (hsol:∃ z:Nat->Rat,∀ i,i<n->dz n (fun k=>sm n fun l=>A i l*A l k) z=V i) (hr:QM rows n (n+1) (augM n (fun i k=>sm n fun l=>A i l*A l k) V))
  (H:∀ x l o,NV n A V x->(∀ i,i<n->Sz 103200000 (x i))->QL l n x->QRep o (errQ n A V q x)->(fit_told.f l o).run fun a=>Q (a.1,a.2.1,a.2.2)):(fit_Nearest.j1 P rows).run Q:=by
 have hml:=hS.hm.1
 unfold fit_Nearest.j1
 rw [hS.hn]
 refine W.bd (fit_zeros_run (by omega) fun z0 hz0=>W.bd (fit_reduce_gen (Z:=fun k N=>CdM n (n+1) (szC 25160 k) N) hr (by omega) (by omega) (by omega) (by have:=szC_12 (Nat.le_refl 25160) hn;omega) cB Grows.cd fun piv rows' M' q1 q2 q3=>?_))
 have hple:=q2.le
 obtain ⟨zz,hzz⟩:=hsol
 have hx:=q2.xsol (q2.clean hzz)
 obtain ⟨d,d0,d1,d2⟩:=(q3.mono (szC_12 (Nat.le_refl 25160) hn)).xfd hple
 obtain ⟨e,e0,e1,e2⟩:=cA
 refine W.loop_c (fun s':List num_Q×Int=>∃ k:Nat,s'.2=k/\k<=piv.length/\QL s'.1 n (xvp M' piv n k)) (fun s=>piv.length - s.2.toNat) ⟨0,rfl,Nat.zero_le _,hz0⟩ ?_
 rintro ⟨zl,_⟩ P2 ⟨k,rfl,hk,k1⟩ hgo2 hbrk2 hout2
 simp only at k1 hgo2 |-
 have hzl:=k1.1
 unfold fit_Nearest.l2
 dsimp only
 refine W.run_if (fun c1=>?_) (fun c1=>hbrk2 _ ?_)
 ·have hv:=q2.lt k (by omega)
  have hrow:=q1.2 k (by omega)
  have hl2:=hrow.1
  have hrl:=q1.1
  rw [gi_nd hv.1,hS.hn]
  simp only [gi_gd]
  refine W.req_i (by omega) (W.req_i (by omega) (W.req_i (by omega) (W.req_i (by omega) (hgo2 _ ⟨k+1,by simp,by omega,?_⟩ (by simp;omega)))))
  simp only [Int.toNat_natCast]
  exact k1.xset (hrow.2 n (by omega))
 obtain rfl:k=piv.length:=by omega
 clear hgo2 hbrk2 hout2
 generalize hzd:xvp M' piv n piv.length=zv at *
 have szz:∀ i,i<n->Sz 103100000 (zv i):=fun i hi=>(d2 i).sz d0 d1
 have hxt:∀ t,12572+103100000+n<=t->∀ i,i<n->Sz t (dz n (A i) zv):=fun t ht i hi=>by
  have f1:Fd (e*d) (12572+103100000+n) (dz n (A i) zv):=Fd.sm fun j hj=>(e2 i j hi hj).mul (d2 j) e0 d0
  exact (f1.mono ht).sz (Int.mul_ne_zero e0 d0) (bits_mono (bits_mul e1 d1) (by omega))
 have hxe:=hxt 103200000 (by omega)
 have hNV:NV n A V (fun k=>dz n (A k) zv):=NV.range hs fun i hi=>by rw [<- square_dz];exact hx i hi
 unfold fit_Nearest.j2
 rw [hS.hn,Int.toNat_natCast]
 refine W.req_i (by omega) ?_
 refine W.loop_c (fun s':List num_Q×Int=>∃ i:Nat,s'.2=i/\i<=n/\s'.1.length=n/\∀ j,j<i->QRep (gd s'.1 j) (dz n (A j) zv)) (fun s=>n - s.2.toNat) ⟨0,rfl,Nat.zero_le _,by simp,fun j hj=>by omega⟩ ?_
 rintro ⟨xl,_⟩ P3 ⟨i,rfl,hi,i1,i2⟩ hgo3 hbrk3 hout3
 simp only at i1 i2 hgo3 |-
 unfold fit_Nearest.l1
 simp only [hS.hn,gi_gd]
 refine W.run_if (fun c3=>?_) (fun c3=>hbrk3 _ ?_)
 ·have hin:i<n:=by omega
  refine W.req_i (by omega) (W.bd (fit_dot_run (hS.hm.2 i hin) k1 (by omega) (by omega) (fun k hk=>z.a i k hin hk) szz fun y hy=>W.req_i (by omega) (hgo3 _ ⟨i+1,by simp,by omega,by simp [i1],fun j hj=>?_⟩ (by simp;omega))))
  simp only [Int.toNat_natCast]
  rw [gd_set]
  by_cases e:i=j
  ·subst e;rw [if_pos ⟨rfl,by omega⟩];exact hy
  ·rw [if_neg (by omega)];exact i2 j (by omega)
 ·obtain rfl:i=n:=by omega
  have hxl:QL xl i (fun k=>dz i (A k) zv):=⟨i1,i2⟩
  unfold fit_Nearest.j3
  exact W.bd (fit_err_run (S:=⟨P.sums.n,P.sums.m,P.sums.v,P.sums.q⟩) ⟨hS.hn,hS.hm,hS.hv,hS.hq⟩ hn hxl z (fun j hj=>(hxe j hj).mono (by omega)) fun o ho=>W.bd (H _ _ _ hNV hxe hxl ho))
end Go.Proofs.YtlmpoindlejefaaGreat.E
