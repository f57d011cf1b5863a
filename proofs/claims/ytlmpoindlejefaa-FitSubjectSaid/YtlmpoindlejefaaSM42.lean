/- Joined. -/
import Derived.Test.YtlmpoindlejefaaSM30
import Derived.Test.YtlmpoindlejefaaSM28S
set_option linter.unusedVariables false
set_option linter.unusedSimpArgs false
namespace Go.Proofs.Ytlmpoindlejefaa.E
open Go Go.RowKit
def bdM (c:Nat) (A E:Nat->Nat->Rat) (i j:Nat):Rat:=if i<c then (if j<c then A i j else -E (j - c) i) else (if j<c then E (i - c) j else 0)
def bdV (c:Nat) (V D:Nat->Rat) (i:Nat):Rat:=if i<c then V i else D (i - c)
theorem tolds_take (c k:Nat) (x:Nat->Rat):(tolds (c+k) x).take c=tolds c x:=by
 unfold tolds
 rw [<- List.map_take,List.take_range,Nat.min_eq_left (Nat.le_add_right c k)]
theorem tolds_drop (c k:Nat) (x:Nat->Rat):(tolds (c+k) x).drop c=tolds k (fun i=>x (c+i)):=by
 unfold tolds
 rw [List.range_add,List.map_append,List.drop_left' (by simp),List.map_map]
 rfl
theorem allTold_add {c k:Nat} {x:Nat->Rat} :allTold (c+k) x ↔ allTold c x/\allTold k (fun i=>x (c+i)):=by
 refine ⟨fun h=>⟨fun i hi=>h i (by omega),fun i hi=>h (c+i) (by omega)⟩,fun ⟨h1,h2⟩ i hi=>?_⟩
 rcases Nat.lt_or_ge i c with h | h
 ·exact h1 i h
 ·have:=h2 (i - c) (by omega)
  dsimp only at this
  rwa [show c+(i - c)=i by omega] at this
section
variable {v b w d:List api_Rat} {r c k:Nat}
theorem border_cdM (hr:r<=12) (hc:c<=12) (hk:k<=12) (hv:∀ j i,j<r->i<c->valid (gd v (j*c+i))) (hb:∀ j,j<r->valid (gd b j)) (hw:∀ j i,j<k->i<c->valid (gd w (j*c+i))) (hd:∀ j,j<k->valid (gd d j)) :
  CdM (c+k) (c+k+1) 18852 (augM (c+k) (bdM c (gA v c r) (mxv w c)) (bdV c (gV v b c r) (fun j=>ratOf (gd d j)))):=by
 obtain ⟨d0,z0,z1,z2,z3⟩:=sums_cd hr hc hv hb
 obtain ⟨d1,a0,a1,a2⟩:=cd_list (fun k=>gd w k) (k*c) fun q hq=>by
  have hc0:0<c:=Nat.pos_of_ne_zero fun e=>by rw [e] at hq;simp at hq
  have h1:q / c<k:=Nat.div_lt_of_lt_mul (by rw [Nat.mul_comm];exact hq)
  have:=hw (q / c) (q % c) h1 (Nat.mod_lt _ hc0)
  rwa [Nat.mul_comm,Nat.div_add_mod] at this
 obtain ⟨d2,b0,b1,b2⟩:=cd_list (fun k=>gd d k) k hd
 have hrc:k*c<=12*12:=Nat.mul_le_mul hk hc
 have n0:d1*d2≠0:=Int.mul_ne_zero a0 b0
 have n1:Bt 6280 (d1*d2):=Bt.mono (Bt.mul a1 b1) (by omega)
 have m1:∀ j i,j<k->i<c->Fd (d0*(d1*d2)) 18852 (mxv w c j i):=fun j i hj hi=>by
  have:=((a2 _ (at_lt hj hi)).up a0 b0 b1).up (e:=d0) n0 z0 z1
  rw [Int.mul_comm] at this
  exact this.mono (by omega)
 have m2:∀ j,j<k->Fd (d0*(d1*d2)) 18852 (ratOf (gd d j)):=fun j hj=>by
  have:=(b2 j hj).up (e:=d1) b0 a0 a1
  rw [Int.mul_comm] at this
  have:=this.up (e:=d0) n0 z0 z1
  rw [Int.mul_comm] at this
  exact this.mono (by omega)
 refine CdM.mk' (Int.mul_ne_zero z0 n0) (z1.mul n1) (by omega) (augM_all (P:=Fd (d0*(d1*d2)) 18852) (fun i j hi hj=>?_) (fun i hi=>?_))
 ·unfold bdM
  split
  ·split
   ·exact ((z2 i j (by omega) (by omega)).up z0 n0 n1).mono (by omega)
   ·exact (m1 _ _ (by omega) (by omega)).neg
  ·split
   ·exact m1 _ _ (by omega) (by omega)
   ·exact Fd.zero
 ·unfold bdV
  split
  ·exact ((z3 i (by omega)).up z0 n0 n1).mono (by omega)
  ·exact m2 _ (by omega)
end
theorem szC_24 {s n:Nat} (hs:s<=18852) (hn:n<=24):szC s n<=316400000000:=by
 have h1:=szC_mono s hn
 have h2:szC s 24<=316400000000:=by simp only [szC];omega
 omega
end Go.Proofs.Ytlmpoindlejefaa.E
namespace Go.Proofs.Ytlmpoindlejefaa.E
open Go Go.RowKit
theorem Sol.uniq' {n:Nat} {A:Nat->Nat->Rat} {V x y:Nat->Rat} (h:Sol n A V x) (k:Sol n A V y):∀ i,i<n->x i=y i:=fun i hi=>(h y |>.1 ((k y).2 fun _ _=>rfl) i hi).symm
def okS (m:api_Mat) (b:List api_Rat):Prop:=matOk m/\∀ r ∈ b,valid r
abbrev Told3:=List api_Rat×List api_Rat×Int
def SubjG (m e:api_Mat) (b d:List api_Rat) (r c k:Nat) (o:Told3):Prop:=
 (∃ x,Sol (c+k) (bdM c (gA m.V c r) (mxv e.V c)) (bdV c (gV m.V b c r) (fun j=>ratOf (gd d j))) x/\(allTold (c+k) x/\o=(tolds c x,tolds k (fun i=>x (c+i)),0)\/¬ allTold (c+k) x/\o=([],[],3)))\/(∀ x,¬ Sol (c+k) (bdM c (gA m.V c r) (mxv e.V c)) (bdV c (gV m.V b c r) (fun j=>ratOf (gd d j))) x)/\o=([],[],4)
theorem SubjG.uniq {m e:api_Mat} {b d:List api_Rat} {r c k:Nat} {o p:Told3} (h:SubjG m e b d r c k o) (g:SubjG m e b d r c k p):o=p:=by
 rcases h with ⟨x,h1,h2⟩ | ⟨h1,rfl⟩
 ·rcases g with ⟨y,k1,k2⟩ | ⟨k1,_⟩
  ·have q:=h1.uniq' k1
   have e2:allTold (c+k) x ↔ allTold (c+k) y:=⟨fun k i hi=>by rw [<- q i hi];exact k i hi,fun k i hi=>by rw [q i hi];exact k i hi⟩
   have e3:tolds c x=tolds c y:=tolds_congr fun i hi=>q i (by omega)
   have e4:tolds k (fun i=>x (c+i))=tolds k (fun i=>y (c+i)):=tolds_congr fun i hi=>q (c+i) (by omega)
   rw [e2,e3,e4] at h2
   rcases h2 with ⟨a1,rfl⟩ | ⟨a1,rfl⟩
   ·rcases k2 with ⟨b1,rfl⟩ | ⟨b1,rfl⟩
    ·rfl
    ·exact absurd a1 b1
   ·rcases k2 with ⟨b1,rfl⟩ | ⟨b1,rfl⟩
    ·exact absurd b1 a1
    ·rfl
  ·exact absurd h1 (k1 x)
 ·rcases g with ⟨y,k1,k2⟩ | ⟨k1,rfl⟩
  ·exact absurd k1 (h1 y)
  ·rfl
def subjR (m:api_Mat) (b:List api_Rat) (e:api_Mat) (d:List api_Rat) (o:Told3):Prop:=
 ¬ (okS m b/\okS e d)/\o=([],[],1)\/(okS m b/\okS e d)/\¬ ((b.length:Int)=m.R/\(d.length:Int)=e.R/\e.C=m.C)/\o=([],[],8)\/∃ r c k:Nat,okS m b/\okS e d/\m.R=r/\m.C=c/\b.length=r/\e.R=k/\e.C=c/\d.length=k/\SubjG m e b d r c k o
theorem subjR.uniq {m e:api_Mat} {b d:List api_Rat} {o p:Told3} (hx:subjR m b e d o) (hy:subjR m b e d p):o=p:=by
 rcases hx with ⟨a1,rfl⟩ | ⟨a1,a2,rfl⟩ | ⟨r,c,k,a1,a2,a3,a4,a5,a6,a7,a8,a9⟩
 ·rcases hy with ⟨b1,rfl⟩ | ⟨b1,b2,rfl⟩ | ⟨r',c',k',b1,b2,b3,b4,b5,b6,b7,b8,b9⟩
  ·rfl
  ·exact absurd b1 a1
  ·exact absurd ⟨b1,b2⟩ a1
 ·rcases hy with ⟨b1,rfl⟩ | ⟨b1,b2,rfl⟩ | ⟨r',c',k',b1,b2,b3,b4,b5,b6,b7,b8,b9⟩
  ·exact absurd a1 b1
  ·rfl
  ·exact absurd ⟨by omega,by omega,by omega⟩ a2
 ·rcases hy with ⟨b1,rfl⟩ | ⟨b1,b2,rfl⟩ | ⟨r',c',k',b1,b2,b3,b4,b5,b6,b7,b8,b9⟩
  ·exact absurd ⟨a1,a2⟩ b1
  ·exact absurd ⟨by omega,by omega,by omega⟩ b2
  ·obtain rfl:r=r':=by omega
   obtain rfl:c=c':=by omega
   obtain rfl:k=k':=by omega
   exact a9.uniq b9
theorem QL.app {l l':List num_Q} {n k:Nat} {f g:Nat->Rat} (h:QL l n f) (h':QL l' k g):QL (l ++ l') (n+k) (fun j=>if j<n then f j else g (j - n)):=by
 refine ⟨by rw [List.length_append,h.1,h'.1],fun i hi=>?_⟩
 rw [gd_app,h.1]
 dsimp only
 by_cases e:i<n
 ·rw [if_pos e,if_pos e];exact h.2 i e
 ·rw [if_neg e,if_neg e];exact h'.2 (i - n) (by omega)
theorem RL.app {l l':List ref01_Q} {n k:Nat} {f g:Nat->Rat} (h:RL l n f) (h':RL l' k g):RL (l ++ l') (n+k) (fun j=>if j<n then f j else g (j - n)):=by
 refine ⟨by rw [List.length_append,h.1,h'.1],fun i hi=>?_⟩
 rw [gd_app,h.1]
 dsimp only
 by_cases e:i<n
 ·rw [if_pos e,if_pos e];exact h.2 i e
 ·rw [if_neg e,if_neg e];exact h'.2 (i - n) (by omega)
section
variable {m e:api_Mat} {b d:List api_Rat} {r c k:Nat} {Q:Told3->Prop}
theorem fit_Subject_tail {P:fit_problem} {rows:List (List num_Q)} {right:List num_Q} (hn:P.sums.n=c) (hc:c<=12) (hk:k<=12) (hrows:QM rows (c+k) (c+k) (bdM c (gA m.V c r) (mxv e.V c))) (hright:QL right (c+k) (bdV c (gV m.V b c r) (fun j=>ratOf (gd d j))))
  (cd:CdM (c+k) (c+k+1) 18852 (augM (c+k) (bdM c (gA m.V c r) (mxv e.V c)) (bdV c (gV m.V b c r) (fun j=>ratOf (gd d j))))) (H:∀ o,SubjG m e b d r c k o->Q o):(fit_Subject.j2 P rows right).run Q:=by
 unfold fit_Subject.j2
 rw [hn]
 have hsz:=szC_24 (show 18852<=18852 by omega) (show c+k<=24 by omega)
 refine W.bd (fit_solve_gen (Z:=fun j N=>CdM (c+k) (c+k+1) (szC 18852 j) N) (t0:=szC 18852 (c+k)) hrows hright (by omega) (by omega) cd Grows.cd (fun out x k1 k2 k3=>?_) (fun u u1 u2=>?_))
 ·rw [if_pos rfl]
  refine W.bd (num_Outs_run k1 (by omega) (fun t=>?_) (fun t=>?_))
  ·rw [if_pos rfl]
   have tl:=tolds_len (c+k) x
   dsimp only
   refine W.req_i (by omega) (W.req_i (by omega) ?_)
   rw [Int.toNat_natCast,tolds_take,tolds_drop]
   exact H _ (.inl ⟨x,k2,.inl ⟨t,rfl⟩⟩)
  ·rw [if_neg (by simp)];exact H _ (.inl ⟨x,k2,.inr ⟨t,rfl⟩⟩)
 ·rw [if_neg (by simp)]
  refine H _ (.inr ⟨fun x hx=>?_,rfl⟩)
  obtain ⟨g,hg,hu⟩:=u1
  have s1:=(hx x).2 fun i _=>rfl
  have s2:=(hx (fun i=>x i+u i)).1 fun i hi=>by
   have a:=s1 i hi
   have b:=u2 i hi
   unfold dz at a b |-
   rw [sm_congr (g:=fun j=>bdM c (gA m.V c r) (mxv e.V c) i j*x j+bdM c (gA m.V c r) (mxv e.V c) i j*u j) fun j _=>by grind,sm_add,a,b,Rat.add_zero]
  have:=s2 g hg
  exact absurd (show u g=0 by grind) hu
theorem fit_Subject_rel (hl:m.V.length<=281474976710656) (hb:b.length<=281474976710656) (hl2:e.V.length<=281474976710656) (hd:d.length<=281474976710656) (H:∀ o,subjR m b e d o->Q o):(fit_Subject.f m b e d).run Q:=by
 unfold fit_Subject.f
 refine W.bd (fit_known_run hl hb (fun ok vb=>?_) (fun c=>?_))
 rotate_left
 ·rw [if_pos (by decide)]
  exact H _ (.inl ⟨fun h=>c h.1,rfl⟩)
 rw [if_neg (by decide)]
 refine W.bd (fit_known_run hl2 hd (fun ok2 vd=>?_) (fun c=>?_))
 rotate_left
 ·rw [if_pos (by decide)]
  exact H _ (.inl ⟨fun h=>c h.2,rfl⟩)
 rw [if_neg (by decide)]
 have K8: ¬ ((b.length:Int)=m.R/\(d.length:Int)=e.R/\e.C=m.C)->Q ([],[],8):=fun h=>H _ (.inr (.inl ⟨⟨⟨ok,vb⟩,⟨ok2,vd⟩⟩,h,rfl⟩))
 refine W.run_if (fun c1=>K8 fun h=>c1 h.1) (fun c1=>W.run_if (fun c2=>K8 fun h=>c2 h.2.1) (fun c2=>W.run_if (fun c3=>K8 fun h=>c3 h.2.2) (fun c3=>?_)))
 have o1:=ok.1
 have o2:=ok.2.1
 have p1:=ok2.1
 obtain ⟨r,hR⟩:=Int.eq_ofNat_of_zero_le o1.1
 obtain ⟨c,hC⟩:=Int.eq_ofNat_of_zero_le o2.1
 obtain ⟨k,hK⟩:=Int.eq_ofNat_of_zero_le p1.1
 have hbl:b.length=r:=by omega
 have hdl:d.length=k:=by omega
 have hC2:e.C=c:=by omega
 have hr:r<=12:=by omega
 have hc:c<=12:=by omega
 have hk:k<=12:=by omega
 have hv:=(ok.at hR hC).2
 obtain ⟨hel,hw⟩:=ok2.at hK hC2
 have vb':∀ j,j<r->valid (gd b j):=fun j hj=>(all_valid_iff b).1 vb j (by omega)
 have vd':∀ j,j<k->valid (gd d j):=fun j hj=>(all_valid_iff d).1 vd j (by omega)
 have cd:=border_cdM (v:=m.V) (b:=b) (w:=e.V) (d:=d) hr hc hk hv vb' hw vd'
 have K:∀ o,SubjG m e b d r c k o->Q o:=fun o ho=>H o (.inr (.inr ⟨r,c,k,⟨ok,vb⟩,⟨ok2,vd⟩,hR,hC,hbl,hK,hC2,hdl,ho⟩))
 refine W.bd (fit_made_run ok hR hC hbl vb' fun P hP=>?_)
 have hPn:=hP.hn
 have hml:=hP.hm.1
 have hvl:=hP.hv.1
 rw [hPn,hK]
 refine W.req_i (by show _/\_;omega) (W.req_i (by show _/\_;omega) (W.req_i (by omega) (W.req_i (by omega) ?_)))
 refine W.loop_c (fun s:List (List num_Q)×List num_Q×Int=>∃ i:Nat,s.2.2=i/\i<=c/\s.1.length=c+k/\s.2.1.length=c+k/\(∀ j,j<i->QL (gd s.1 j) (c+k) (bdM c (gA m.V c r) (mxv e.V c) j))/\∀ j,j<i->QRep (gd s.2.1 j) (bdV c (gV m.V b c r) (fun j=>ratOf (gd d j)) j)) (fun s=>c - s.2.2.toNat) ⟨0,rfl,Nat.zero_le _,by simp only [List.length_replicate];omega,by simp only [List.length_replicate];omega,fun j hj=>by omega,fun j hj=>by omega⟩ ?_
 rintro ⟨rows,right,_⟩ P1 ⟨i,rfl,hi,h1,h2,h3,h4⟩ hgo hbrk hout
 simp only at h1 h2 h3 h4 hgo |-
 unfold fit_Subject.l2
 rw [hPn,hK]
 simp only [gi_gd]
 refine W.run_if (fun c1=>?_) (fun c1=>hbrk _ ?_)
 ·have hic:i<c:=by omega
  have hrow:=hP.hm.2 i hic
  have hrl:=hrow.1
  refine W.req_i (by omega) (W.bd (slices_Clone_run (by omega) (W.bd (fit_zeros_run (n:=k) (by omega) fun z hz=>?_))))
  have hzl:=hz.1
  refine W.req_i (by omega) (W.req_i (by omega) ?_)
  rw [Int.toNat_natCast]
  refine W.loop_c (fun s:List (List num_Q)×Int=>∃ j:Nat,s.2=j/\j<=k/\s.1.length=c+k/\(∀ q,q<i->QL (gd s.1 q) (c+k) (bdM c (gA m.V c r) (mxv e.V c) q))/\QL (gd s.1 i) (c+k) (fun q=>if q<c then gA m.V c r i q else if q<c+j then -mxv e.V c (q - c) i else 0)) (fun s=>k - s.2.toNat) ⟨0,rfl,Nat.zero_le _,by simp [h1],fun q hq=>?_,?_⟩ ?_
  ·rw [gd_set,if_neg (by omega)];exact h3 q hq
  ·rw [gd_set,if_pos ⟨rfl,by omega⟩]
   refine (hrow.app hz).congr fun q hq=>?_
   by_cases e1:q<c
   ·rw [if_pos e1,if_pos e1]
   ·rw [if_neg e1,if_neg e1,if_neg (by omega)]
  rintro ⟨rows2,_⟩ P2 ⟨j,rfl,hj,k1,k2,k3⟩ hgo2 hbrk2 hout2
  simp only at k1 k2 k3 hgo2 |-
  unfold fit_Subject.l3
  rw [hPn,hK]
  simp only [gi_gd]
  refine W.run_if (fun c2=>?_) (fun c2=>hbrk2 _ ?_)
  ·have hjk:j<k:=by omega
   have k3l:=k3.1
   have hp:=mul_in (a:=(j:Int)) (b:=(c:Int)) (by omega) (by omega)
   have hat:=at_lt hjk hic
   have e1:(j:Int)*(c:Int)+(i:Int)=((j*c+i:Nat):Int):=by simp
   have e2:(c:Int)+(j:Int)=((c+j:Nat):Int):=by simp
   refine W.req_i (by omega) (W.req_i (by show _/\_;omega) (W.req_i (by show _/\_;omega) (W.req_i (by show _/\_;omega) ?_)))
   rw [e1,e2,gi_gd]
   refine W.req_i (by omega) (W.bd (num_Of_run (hw j i hjk hic) fun u hu=>W.bd (num_Q_Neg_run hu fun u2 hu2=>W.req_i (by omega) (hgo2 _ ⟨j+1,by simp,by omega,by simp [k1],fun q hq=>?_,?_⟩ (by simp;omega)))))
   ·rw [Int.toNat_natCast,gd_set,if_neg (by omega)];exact k2 q hq
   ·simp only [Int.toNat_natCast]
    rw [gd_set,if_pos ⟨rfl,by omega⟩]
    refine (k3.set hu2).congr fun q hq=>?_
    by_cases e3:q=c+j
    ·rw [if_pos e3,if_neg (by omega),if_pos (by omega),e3,Nat.add_sub_cancel_left]
     rfl
    ·rw [if_neg e3]
     by_cases e4:q<c
     ·rw [if_pos e4,if_pos e4]
     ·have:(q<c+(j+1)) ↔ (q<c+j):=by omega
      rw [if_neg e4,if_neg e4]
      simp only [this]
  ·obtain rfl:j=k:=by omega
   unfold fit_Subject.j4 fit_Subject.j3
   simp only [gi_gd]
   refine W.req_i (by omega) (W.req_i (by omega) (hgo _ ⟨i+1,by simp,by omega,k1,by simp [h2],fun q hq=>?_,fun q hq=>?_⟩ (by simp;omega)))
   ·by_cases e1:q=i
    ·subst e1
     refine k3.congr fun p hp=>?_
     unfold bdM
     rw [if_pos hic]
     by_cases e2:p<c
     ·rw [if_pos e2,if_pos e2]
     ·rw [if_neg e2,if_neg e2,if_pos (by omega)]
    ·exact k2 q (by omega)
   ·rw [Int.toNat_natCast,gd_set]
    by_cases e1:i=q
    ·subst e1
     rw [if_pos ⟨rfl,by omega⟩]
     unfold bdV
     rw [if_pos hic]
     exact hP.hv.2 i hic
    ·rw [if_neg (by omega)];exact h4 q (by omega)
 ·obtain rfl:i=c:=by omega
  unfold fit_Subject.j1
  refine W.loop_c (fun s:List (List num_Q)×List num_Q×Int=>∃ j:Nat,s.2.2=j/\j<=k/\s.1.length=i+k/\s.2.1.length=i+k/\(∀ q,q<i+j->QL (gd s.1 q) (i+k) (bdM i (gA m.V i r) (mxv e.V i) q))/\∀ q,q<i+j->QRep (gd s.2.1 q) (bdV i (gV m.V b i r) (fun j=>ratOf (gd d j)) q)) (fun s=>k - s.2.2.toNat) ⟨0,rfl,Nat.zero_le _,h1,h2,fun q hq=>h3 q (by omega),fun q hq=>h4 q (by omega)⟩ ?_
  rintro ⟨rows2,right2,_⟩ P2 ⟨j,rfl,hj,k1,k2,k3,k4⟩ hgo2 hbrk2 hout2
  simp only at k1 k2 k3 k4 hgo2 |-
  unfold fit_Subject.l1
  rw [hPn,hK]
  refine W.run_if (fun c2=>?_) (fun c2=>hbrk2 _ ?_)
  ·have hjk:j<k:=by omega
   have hp:=mul_in (a:=(j:Int)) (b:=(i:Int)) (by omega) (by omega)
   have hp2:=mul_in (a:=(j:Int)+1) (b:=(i:Int)) (by omega) (by omega)
   have e2:(i:Int)+(j:Int)=((i+j:Nat):Int):=by simp
   refine W.req_i (by show _/\_;omega) (W.req_i (by show _/\_;omega) (W.req_i (by show _/\_;omega) (W.req_i (row_in hel hjk) ?_)))
   rw [cut_eq,e2,gi_gd]
   refine W.bd (num_In_run (n:=i) (f:=mxv e.V i j) (cut_len hel hjk) (by omega) (fun q hq=>?_) fun ro hro=>?_)
   ·rw [gd_cut _ _ _ _ hq];exact ⟨hw j q hjk hq,rfl⟩
   have hrol:=hro.1
   refine W.bd (fit_zeros_run (n:=k) (by omega) fun z hz=>?_)
   have hzl:=hz.1
   refine W.req_i (by omega) (W.req_i (by omega) (W.req_i (by show _/\_;omega) (W.req_i (by omega) (W.bd (num_Of_run (vd' j hjk) fun u hu=>W.req_i (by omega) (hgo2 _ ⟨j+1,by simp,by omega,by simp [k1],by simp [k2],fun q hq=>?_,fun q hq=>?_⟩ (by simp;omega)))))))
   ·simp only [Int.toNat_natCast]
    rw [gd_set]
    by_cases e1:i+j=q
    ·subst e1
     rw [if_pos ⟨rfl,by omega⟩]
     refine (hro.app hz).congr fun p hp=>?_
     unfold bdM
     rw [if_neg (show ¬ i+j<i by omega),Nat.add_sub_cancel_left]
    ·rw [if_neg (by omega)];exact k3 q (by omega)
   ·simp only [Int.toNat_natCast]
    rw [gd_set]
    by_cases e1:i+j=q
    ·subst e1
     rw [if_pos ⟨rfl,by omega⟩]
     unfold bdV
     rw [if_neg (show ¬ i+j<i by omega),Nat.add_sub_cancel_left]
     exact hu
    ·rw [if_neg (by omega)];exact k4 q (by omega)
  ·obtain rfl:j=k:=by omega
   exact fit_Subject_tail hPn hc hk ⟨k1,k3⟩ ⟨k2,k4⟩ cd K
end
end Go.Proofs.Ytlmpoindlejefaa.E
namespace Go.Proofs.Ytlmpoindlejefaa.E
open Go Go.RowKit
theorem RL.take {l:List ref01_Q} {c k:Nat} {f:Nat->Rat} (h:RL l (c+k) f):RL (l.take c) c f:=by
 have hl:=h.1
 refine ⟨by rw [List.length_take];omega,fun i hi=>?_⟩
 have:=h.2 i (by omega)
 rw [gd_lt (by omega)] at this
 rw [gd_lt (by rw [List.length_take];omega),List.getElem_take]
 exact this
theorem RL.drop {l:List ref01_Q} {c k:Nat} {f:Nat->Rat} (h:RL l (c+k) f):RL (l.drop c) k (fun i=>f (c+i)):=by
 have hl:=h.1
 refine ⟨by rw [List.length_drop];omega,fun i hi=>?_⟩
 have:=h.2 (c+i) (by omega)
 rw [gd_lt (by omega)] at this
 rw [gd_lt (by rw [List.length_drop];omega),List.getElem_drop]
 exact this
section
variable {m e:api_Mat} {b d:List api_Rat} {r c k:Nat} {Q:Told3->Prop}
theorem ref27_Subject_tail {S:List (List ref01_Q)×List ref01_Q×ref01_Q} {all:List (List ref01_Q)} (hC:m.C=c) (hc:c<=12) (hk:k<=12) (hall:RM all (c+k) (c+k) (bdM c (gA m.V c r) (mxv e.V c))) (hV:RL S.2.1 c (gV m.V b c r)) (hdl:d.length=k) (vd:∀ j,j<k->valid (gd d j))
  (cd:CdM (c+k) (c+k+1) 18852 (augM (c+k) (bdM c (gA m.V c r) (mxv e.V c)) (bdV c (gV m.V b c r) (fun j=>ratOf (gd d j))))) (H:∀ o,SubjG m e b d r c k o->Q o):(ref27_Subject.j2 S d m all).run Q:=by
 unfold ref27_Subject.j2
 rw [hC]
 have hVl:=hV.1
 have hsz:=szC_24 (show 18852<=18852 by omega) (show c+k<=24 by omega)
 refine W.req_i (by omega) (W.bd (ref01_List_run hdl (by omega) (fun j hj=>⟨vd j hj,rfl⟩) fun D hD=>?_))
 have hDl:=hD.1
 refine W.req_i (by omega) (W.bd (ref27_alone_gen (Z:=fun j N=>CdM (c+k) (c+k+1) (szC 18852 j) N) (t0:=szC 18852 (c+k)) hall ((hV.app hD).congr fun j hj=>by unfold bdV;rfl) (by omega) (by omega) cd Grows.cd (fun out x k1 k2 k3=>?_) (fun out k2=>?_)))
 ·rw [if_pos rfl]
  have hol:=k1.1
  dsimp only
  refine W.req_i (by omega) ?_
  rw [Int.toNat_natCast]
  refine W.bd (ref01_Rats_run k1.take (by omega) (fun t=>?_) (fun t=>?_))
  ·refine W.req_i (by omega) (W.bd (ref01_Rats_run k1.drop (by omega) (fun t2=>?_) (fun t2=>?_)))
   ·rw [if_pos rfl,if_pos rfl]
    exact H _ (.inl ⟨x,k2,.inl ⟨allTold_add.2 ⟨t,t2⟩,rfl⟩⟩)
   ·rw [if_pos rfl,if_neg (by simp)]
    exact H _ (.inl ⟨x,k2,.inr ⟨fun h=>t2 (allTold_add.1 h).2,rfl⟩⟩)
  ·refine W.req_i (by omega) (W.bd (ref01_Rats_run k1.drop (by omega) (fun t2=>?_) (fun t2=>?_)))
   ·rw [if_neg (by simp)]
    exact H _ (.inl ⟨x,k2,.inr ⟨fun h=>t (allTold_add.1 h).1,rfl⟩⟩)
   ·rw [if_neg (by simp)]
    exact H _ (.inl ⟨x,k2,.inr ⟨fun h=>t (allTold_add.1 h).1,rfl⟩⟩)
 ·rw [if_neg (by simp)]
  exact H _ (.inr ⟨k2,rfl⟩)
theorem ref27_Subject_rel (hl:m.V.length<=281474976710656) (hb:b.length<=281474976710656) (hl2:e.V.length<=281474976710656) (hd:d.length<=281474976710656) (H:∀ o,subjR m b e d o->Q o):(ref27_Subject.f m b e d).run Q:=by
 unfold ref27_Subject.f
 refine W.bd (ref27_args_run hl hb (fun ok vb=>?_) (fun c=>?_))
 rotate_left
 ·rw [if_pos (by decide)]
  exact H _ (.inl ⟨fun h=>c h.1,rfl⟩)
 rw [if_neg (by decide)]
 refine W.bd (ref27_args_run hl2 hd (fun ok2 vd=>?_) (fun c=>?_))
 rotate_left
 ·rw [if_pos (by decide)]
  exact H _ (.inl ⟨fun h=>c h.2,rfl⟩)
 rw [if_neg (by decide)]
 have K8: ¬ ((b.length:Int)=m.R/\(d.length:Int)=e.R/\e.C=m.C)->Q ([],[],8):=fun h=>H _ (.inr (.inl ⟨⟨⟨ok,vb⟩,⟨ok2,vd⟩⟩,h,rfl⟩))
 refine W.run_if (fun c1=>K8 fun h=>c1 h.1) (fun c1=>W.run_if (fun c2=>K8 fun h=>c2 h.2.2) (fun c2=>W.run_if (fun c3=>K8 fun h=>c3 h.2.1) (fun c3=>?_)))
 have o1:=ok.1
 have o2:=ok.2.1
 have p1:=ok2.1
 obtain ⟨r,hR⟩:=Int.eq_ofNat_of_zero_le o1.1
 obtain ⟨c,hC⟩:=Int.eq_ofNat_of_zero_le o2.1
 obtain ⟨k,hK⟩:=Int.eq_ofNat_of_zero_le p1.1
 have hbl:b.length=r:=by omega
 have hdl:d.length=k:=by omega
 have hC2:e.C=c:=by omega
 have hr:r<=12:=by omega
 have hc:c<=12:=by omega
 have hk:k<=12:=by omega
 have hv:=(ok.at hR hC).2
 obtain ⟨hel,hw⟩:=ok2.at hK hC2
 have vb':∀ j,j<r->valid (gd b j):=fun j hj=>(all_valid_iff b).1 vb j (by omega)
 have vd':∀ j,j<k->valid (gd d j):=fun j hj=>(all_valid_iff d).1 vd j (by omega)
 have cd:=border_cdM (v:=m.V) (b:=b) (w:=e.V) (d:=d) hr hc hk hv vb' hw vd'
 have K:∀ o,SubjG m e b d r c k o->Q o:=fun o ho=>H o (.inr (.inr ⟨r,c,k,⟨ok,vb⟩,⟨ok2,vd⟩,hR,hC,hbl,hK,hC2,hdl,ho⟩))
 refine W.bd (ref01_List_run hbl (by omega) (fun k hk=>⟨vb' k hk,rfl⟩) fun B hB=>W.bd (ref27_sums_run ok hR hC hB (fun j hj=>(vb' j hj).sz) fun N V q hN hV hq=>W.bd (ref04_Rows_run hK hC2 hk hc hel hw fun E hE=>?_)))
 have hNl:=hN.1
 have hEl:=hE.1
 refine W.loop_c (fun s:List (List ref01_Q)×Int=>∃ i:Nat,s.2=i/\i<=c/\s.1.length=i/\∀ j,j<i->RL (gd s.1 j) (c+k) (bdM c (gA m.V c r) (mxv e.V c) j)) (fun s=>c - s.2.toNat) ⟨0,rfl,Nat.zero_le _,rfl,fun j hj=>by omega⟩ ?_
 rintro ⟨all,_⟩ P1 ⟨i,rfl,hi,h1,h2⟩ hgo hbrk hout
 simp only at h1 h2 hgo |-
 unfold ref27_Subject.l2
 simp only [gi_gd]
 refine W.run_if (fun c1=>?_) (fun c1=>hbrk _ ?_)
 ·have hic:i<c:=by omega
  have hrow:=hN.2 i hic
  have hrl:=hrow.1
  refine W.req_i (by omega) (W.req_i (by omega) ?_)
  refine W.loop_c (fun s:List ref01_Q×Int=>∃ j:Nat,s.2=j/\j<=k/\RL s.1 (c+j) (bdM c (gA m.V c r) (mxv e.V c) i)) (fun s=>k - s.2.toNat) ⟨0,rfl,Nat.zero_le _,hrow.congr fun q hq=>by unfold bdM;rw [if_pos hic,if_pos hq]⟩ ?_
  rintro ⟨row,_⟩ P2 ⟨j,rfl,hj,k1⟩ hgo2 hbrk2 hout2
  simp only at k1 hgo2 |-
  have hrl2:=k1.1
  unfold ref27_Subject.l3
  simp only [gi_gd]
  refine W.run_if (fun c2=>?_) (fun c2=>hbrk2 _ ?_)
  ·have hjk:j<k:=by omega
   have hej:=hE.2 j hjk
   have hejl:=hej.1
   refine W.req_i (by omega) (W.req_i (by omega) (W.bd (ref01_Neg_run (hej.2 i hic) fun u hu=>W.req_i (by omega) (hgo2 _ ⟨j+1,by simp,by omega,k1.snoc ?_⟩ (by simp;omega)))))
   unfold bdM
   rw [if_pos hic,if_neg (by omega),Nat.add_sub_cancel_left]
   exact hu
  ·obtain rfl:j=k:=by omega
   unfold ref27_Subject.j4 ref27_Subject.j3
   refine W.req_i (by omega) (hgo _ ⟨i+1,by simp,by omega,by simp [h1],fun q hq=>?_⟩ (by simp;omega))
   rw [gd_app]
   by_cases e1:q<i
   ·rw [if_pos (by omega)];exact h2 q e1
   ·obtain rfl:q=i:=by omega
    rw [if_neg (by omega),h1,Nat.sub_self]
    exact k1
 ·obtain rfl:i=c:=by omega
  unfold ref27_Subject.j1
  refine W.loop_c (fun s:List (List ref01_Q)×Int=>∃ j:Nat,s.2=j/\j<=k/\s.1.length=i+j/\∀ q,q<i+j->RL (gd s.1 q) (i+k) (bdM i (gA m.V i r) (mxv e.V i) q)) (fun s=>k - s.2.toNat) ⟨0,rfl,Nat.zero_le _,h1,fun q hq=>h2 q (by omega)⟩ ?_
  rintro ⟨all2,_⟩ P2 ⟨j,rfl,hj,k1,k2⟩ hgo2 hbrk2 hout2
  simp only at k1 k2 hgo2 |-
  unfold ref27_Subject.l1
  simp only [gi_gd,hEl]
  refine W.run_if (fun c2=>?_) (fun c2=>hbrk2 _ ?_)
  ·have hjk:j<k:=by omega
   have hej:=hE.2 j hjk
   have hejl:=hej.1
   refine W.req_i (by omega) (W.req_i (by omega) (W.req_i (by omega) (W.req_i (by omega) (hgo2 _ ⟨j+1,by simp,by omega,by simp [k1];omega,fun q hq=>?_⟩ (by simp;omega)))))
   rw [gd_app]
   by_cases e1:q<i+j
   ·rw [if_pos (by omega)];exact k2 q e1
   ·obtain rfl:q=i+j:=by omega
    rw [if_neg (by omega),k1,Nat.sub_self]
    rw [Int.toNat_natCast]
    refine (hej.app (RL.zero k)).congr fun p hp=>?_
    unfold bdM
    rw [if_neg (show ¬ i+j<i by omega),Nat.add_sub_cancel_left]
  ·obtain rfl:j=k:=by omega
   exact ref27_Subject_tail hC hc hk ⟨k1,k2⟩ hV hdl vd' cd K
theorem law27_FitSubject_run (hl:m.V.length<=281474976710656) (hb:b.length<=281474976710656) (hl2:e.V.length<=281474976710656) (hd:d.length<=281474976710656):(law27_FitSubject.f m b e d).run (fun b=>b=true):=by
 unfold law27_FitSubject.f
 refine W.bd (fit_Subject_rel hl hb hl2 hd fun o ho=>W.bd (ref27_Subject_rel hl hb hl2 hd fun p hp=>?_))
 obtain rfl:=subjR.uniq ho hp
 refine W.bd (law27_same_refl ?_)
 rw [if_pos rfl]
 refine W.bd (law27_same_refl ?_)
 rw [if_pos rfl,if_pos rfl]
 exact W.bd (law27_known_run rfl)
end
end Go.Proofs.Ytlmpoindlejefaa.E
