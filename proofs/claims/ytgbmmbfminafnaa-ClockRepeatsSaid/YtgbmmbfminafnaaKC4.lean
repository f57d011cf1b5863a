/- Joined. -/
import Derived.Test.YtgbmmbfminafnaaKC2
set_option linter.unusedVariables false
set_option linter.unusedSimpArgs false
namespace Go.Proofs.Ytgbmmbfminafnaa.E
open Go Go.RowKit
theorem mat_Rank_run {m:api_Mat} {r c:Nat} {Q:Int×Int->Prop} (ok:matOk m) (hR:m.R=r) (hC:m.C=c) (H:∀ M piv,Red r c (mxv m.V c) M c piv->Q (piv.length,0)):(mat_Rank.f m).run Q:=by
 obtain ⟨hl,hv⟩:=ok.at hR hC
 have hr12:r<=12:=by have:=ok.1;omega
 have hc12:c<=12:=by have:=ok.2.1;omega
 have hlen:m.V.length<=144:=by rw [hl];exact Nat.mul_le_mul hr12 hc12
 have h12:szR 40 12<=700000000:=by decide
 have hsz:szR 40 c<=700000000:=Nat.le_trans (szR_mono 40 hc12) h12
 have hct:c*szR 40 c<=12*700000000:=Nat.mul_le_mul hc12 hsz
 unfold mat_Rank.f
 refine W.bd (mat_Validate_run (by omega) (fun _=>?_) (fun c=>absurd ok c))
 rw [if_neg (by simp)]
 refine W.bd (qm_Of_run ok hR hC fun o h1 h2=>W.bd ?_)
 unfold qm_M_Rank.f
 rw [h1]
 exact W.bd (qm_Reduce_gen (Z:=fun k N=>∀ i j,i<r->j<c->Sz (szR 40 k) (N i j)) (t:=szR 40 c) h1 h2 (Nat.le_refl _) (by omega) (by omega) (by omega) (by omega) (fun i j hi hj=>(hv i j hi hj).sz) Grows.szR fun o2 piv det M' g1 g2 g3 g4=>H _ _ g3)
theorem row_of {n:Nat} {f:api_Flow} (hf:okF n f) {p:List api_Rat} (hp:p.length=n) (hz:∀ k,k<n->gd p k= ⟨0,1⟩) {q row:List api_Rat} (hq:q=p.set f.A.toNat ⟨(gi p f.A).N+f.Put,(gi p f.A).D⟩) (hr:row=q.set f.B.toNat ⟨(gi q f.B).N - f.Take,(gi q f.B).D⟩) :
  q.length=n/\row.length=n/\(gi p f.A).N=0/\-60<=(gi q f.B).N/\(gi q f.B).N<=60/\∀ k,k<n->valid (gd row k)/\ratOf (gd row k)=frow f k:=by
 have a1:=hf.an
 have b1:=hf.bn
 have e1:f.A=(f.A.toNat:Int):=by have:=hf.a0;omega
 have e2:f.B=(f.B.toNat:Int):=by have:=hf.b0;omega
 have p0:=hf.p0
 have p1:=hf.p1
 have t0:=hf.t0
 have t1:=hf.t1
 have gA:gi p f.A= ⟨0,1⟩:=by rw [gi_gdi e1];exact hz _ a1
 rw [gA] at hq
 have ql:q.length=n:=by rw [hq,List.length_set,hp]
 have qk:∀ k,k<n->gd q k= ⟨if k=f.A.toNat then f.Put else 0,1⟩:=fun k hk=>by
  rw [hq,gd_set]
  by_cases e:k=f.A.toNat
  ·rw [if_pos ⟨e.symm,by omega⟩,if_pos e];simp
  ·rw [if_neg (by omega),if_neg e];exact hz k hk
 have gB:gi q f.B= ⟨if f.B.toNat=f.A.toNat then f.Put else 0,1⟩:=by rw [gi_gdi e2];exact qk _ b1
 rw [gB] at hr |-
 refine ⟨ql,by rw [hr,List.length_set,ql],by rw [gA],?_,?_,fun k hk=>?_⟩
 ·show -60<=(if f.B.toNat=f.A.toNat then f.Put else 0);split <;> omega
 ·show (if f.B.toNat=f.A.toNat then f.Put else 0)<=60;split <;> omega
 have rk:gd row k= ⟨(if k=f.A.toNat then f.Put else 0) - (if k=f.B.toNat then f.Take else 0),1⟩:=by
  rw [hr,gd_set]
  by_cases e:k=f.B.toNat
  ·rw [if_pos ⟨e.symm,by omega⟩,if_pos e,e]
  ·rw [if_neg (by omega),if_neg e,qk k hk,Int.sub_zero]
 rw [rk]
 refine ⟨⟨by simp,by simp,?_,?_,by simp⟩,?_⟩
 ·show -1000000000000<=(if k=f.A.toNat then f.Put else 0) - (if k=f.B.toNat then f.Take else 0)
  split <;> split <;> omega
 ·show (if k=f.A.toNat then f.Put else 0) - (if k=f.B.toNat then f.Take else 0)<=1000000000000
  split <;> split <;> omega
 ·unfold ratOf frow
  have e1:∀ a:Int,Rat.divInt a 1=(a:Rat):=fun a=>by
   rw [Rat.divInt_eq_div,Rat.intCast_one];grind
  rw [e1]
  rw [Rat.intCast_sub]
  split <;> split <;> simp <;> grind
structure Kept (n:Nat) (l:List api_Flow) (V:List api_Rat) (m:Nat):Prop where
 len:V.length=m*n
 val:∀ r ∈ V,valid r
 red:∃ M piv,Red m n (mxv V n) M n piv/\piv.length=m
 ker:∀ y:Nat->Rat,(∀ i,i<m->dz n (mxv V n i) y=0) ↔ Sat l y
theorem Kept.nil {n:Nat} :Kept n [] [] 0:=by
 refine ⟨by simp,fun r h=>by simp at h,?_,fun y=>⟨fun _ f h=>by simp at h,fun _ i hi=>by omega⟩⟩
 obtain ⟨M,piv,h⟩:=Red.ex0 (r:=0) (c:=n) (mxv [] n) n (Nat.le_refl _)
 exact ⟨M,piv,h,by have:=h.le;omega⟩
theorem Kept.le {n m:Nat} {l:List api_Flow} {V:List api_Rat} (h:Kept n l V m):m<=n:=by
 obtain ⟨M,piv,h1,h2⟩:=h.red
 have:=h1.count
 omega
theorem sat_snoc {l:List api_Flow} {f:api_Flow} {y:Nat->Rat} :Sat (l ++ [f]) y ↔ Sat l y/\(f.Put:Rat)*y f.A.toNat=f.Take*y f.B.toNat:=by
 unfold Sat
 simp only [List.mem_append,List.mem_singleton]
 exact ⟨fun h=>⟨fun g hg=>h g (.inl hg),h f (.inr rfl)⟩,fun h g hg=>hg.elim (fun k=>h.1 g k) (fun k=>k ▸ h.2)⟩
section
variable {n m:Nat} {l:List api_Flow} {V row:List api_Rat} {f:api_Flow}
theorem mxv_old (hl:V.length=m*n) {i k:Nat} (hi:i<m) (hk:k<n):mxv (V ++ row) n i k=mxv V n i k:=by
 unfold mxv
 have:i*n+n<=m*n:=by rw [<- Nat.succ_mul];exact Nat.mul_le_mul_right _ hi
 rw [gd_app,if_pos (by omega)]
theorem mxv_new (hl:V.length=m*n) (hr:∀ k,k<n->ratOf (gd row k)=frow f k) {k:Nat} (hk:k<n):mxv (V ++ row) n m k=frow f k:=by
 unfold mxv
 rw [gd_app,if_neg (by omega),hl,Nat.add_sub_cancel_left]
 exact hr k hk
theorem ker_app (h:Kept n l V m) (hf:okF n f) (hr:∀ k,k<n->ratOf (gd row k)=frow f k) (y:Nat->Rat):(∀ i,i<m+1->dz n (mxv (V ++ row) n i) y=0) ↔ Sat (l ++ [f]) y:=by
 rw [sat_snoc,<- h.ker]
 have old:∀ i,i<m->dz n (mxv (V ++ row) n i) y=dz n (mxv V n i) y:=fun i hi=>sm_congr fun k hk=>by rw [mxv_old h.len hi hk]
 have new:dz n (mxv (V ++ row) n m) y=f.Put*y f.A.toNat - f.Take*y f.B.toNat:=by
  rw [<- dz_frow hf]
  exact sm_congr fun k hk=>by rw [mxv_new h.len hr hk]
 constructor
 ·intro g
  refine ⟨fun i hi=>by rw [<- old i hi];exact g i (by omega),?_⟩
  have:=g m (by omega)
  rw [new] at this
  grind
 ·rintro ⟨g1,g2⟩ i hi
  by_cases e:i=m
  ·rw [e,new,g2];grind
  ·rw [old i (by omega)];exact g1 i (by omega)
theorem Kept.keep (h:Kept n l V m) (hf:okF n f) (hrl:row.length=n) (hr:∀ k,k<n->valid (gd row k)/\ratOf (gd row k)=frow f k) {M:Nat->Nat->Rat} {piv:List Int} (hx:Red (m+1) n (mxv (V ++ row) n) M n piv) (hp:m<piv.length):Kept n (l ++ [f]) (V ++ row) (m+1):=by
 refine ⟨by rw [List.length_append,h.len,hrl,Nat.succ_mul],fun r hm=>?_,⟨M,piv,hx,by have:=hx.le;omega⟩,ker_app h hf fun k hk=>(hr k hk).2⟩
 rcases List.mem_append.1 hm with hm | hm
 ·exact h.val r hm
 ·obtain ⟨k,hk,rfl⟩:=List.mem_iff_getElem.1 hm
  have:=(hr k (by omega)).1
  rwa [gd_lt hk] at this
theorem Kept.leave (h:Kept n l V m) (hf:okF n f) (hr:∀ k,k<n->ratOf (gd row k)=frow f k) {M:Nat->Nat->Rat} {piv:List Int} (hx:Red (m+1) n (mxv (V ++ row) n) M n piv) (hp:piv.length<=m):Kept n (l ++ [f]) V m:=by
 refine ⟨h.len,h.val,h.red,fun y=>?_⟩
 obtain ⟨M0,piv0,h1,h2⟩:=h.red
 have kk:=ker_app h hf hr
 have old:∀ y:Nat->Rat,∀ i,i<m->dz n (mxv (V ++ row) n i) y=dz n (mxv V n i) y:=fun y i hi=>sm_congr fun k hk=>by rw [mxv_old h.len hi hk]
 constructor
 ·intro g
  exact (kk y).1 (ker_same h1 hx (fun z hz i hi=>by rw [<- old z i hi];exact hz i (by omega)) (by omega) y g)
 ·intro g i hi
  rw [<- old y i hi]
  exact (kk y).2 g i (by omega)
end
section
variable {n:Nat} {l:List api_Flow} {Q:Bool->Prop}
theorem clock_isBalanced_run (hn1:1<=n) (hn:n<=10) (hl:l.length<=64) (ok:∀ f ∈ l,okF n f) (H:∀ b V m lab,Lab (l.map fN) n lab->Kept n l V m->(b=true ↔ (n:Int) - m=(rootN n lab).length)->Q b):(clock_isBalanced.f (n:Int) l).run Q:=by
 unfold clock_isBalanced.f
 refine W.bd (clock_joined_run hn hl ok fun lab hlab=>?_)
 refine W.loop_c (fun s:Int×Int×Int×List api_Rat×Int=>∃ i m:Nat,s.2.2.2.2=i/\i<=l.length/\s.1=m/\s.2.1=m/\s.2.2.1=n/\Kept n (l.take i) s.2.2.2.1 m) (fun s=>l.length - s.2.2.2.2.toNat) ⟨0,0,rfl,Nat.zero_le _,rfl,rfl,rfl,Kept.nil⟩ ?_
 rintro ⟨_,_,_,V,_⟩ P ⟨i,m,rfl,hi,rfl,rfl,rfl,hK⟩ hgo hbrk hout
 simp only at hK hgo |-
 have hmn:=hK.le
 unfold clock_isBalanced.l1
 refine W.run_if (fun c=>W.req_i (by omega) (W.req_i (by omega) ?_)) (fun c=>hbrk _ ?_)
 ·rw [Int.toNat_natCast]
  refine W.loop_c (fun s:List api_Rat×Int=>∃ j:Nat,s.2=j/\j<=n/\s.1.length=n/\∀ k,k<j->gd s.1 k= ⟨0,1⟩) (fun s=>n - s.2.toNat) ⟨0,rfl,Nat.zero_le _,by simp,fun k hk=>by omega⟩ ?_
  rintro ⟨p,_⟩ P2 ⟨j,rfl,hj,hp,hz⟩ hgo2 hbrk2 hout2
  simp only at hp hz hgo2 |-
  unfold clock_isBalanced.l2
  simp only [List.length_replicate,Int.toNat_natCast]
  refine W.run_if (fun c2=>W.req_i (by omega) (hgo2 _ ⟨j+1,by simp,by omega,by simp [hp],fun k hk=>?_⟩ (by simp;omega))) (fun c2=>hbrk2 _ ?_)
  ·simp only
   rw [gd_set]
   by_cases e:j=k
   ·rw [if_pos ⟨e,by omega⟩]
   ·rw [if_neg (by omega)];exact hz k (by omega)
  obtain rfl:j=n:=by omega
  have hf:=ok _ (gd_mem (show i<l.length by omega))
  have hsn:l.take (i+1)=l.take i ++ [gd l i]:=by rw [List.take_add_one,List.getElem?_eq_getElem (by omega),gd_lt (by omega)];rfl
  unfold clock_isBalanced.j3 clock_isBalanced.j4 clock_isBalanced.j2
  simp only [gi_gd]
  generalize gd l i=f at hf hsn |-
  generalize hq:p.set f.A.toNat (⟨(gi p f.A).N+f.Put,(gi p f.A).D⟩:api_Rat)=q
  generalize hrw:q.set f.B.toNat (⟨(gi q f.B).N - f.Take,(gi q f.B).D⟩:api_Rat)=row
  obtain ⟨r1,r2,r3,r4,r5,r6⟩:=row_of hf hp hz hq.symm hrw.symm
  have a0:=hf.a0
  have a1:=hf.a1
  have b0:=hf.b0
  have b1:=hf.b1
  have p0:=hf.p0
  have p1:=hf.p1
  have t0:=hf.t0
  have t1:=hf.t1
  have hVl:=hK.len
  have hmj:m*j<=10*10:=Nat.mul_le_mul (by omega) hn
  have okM:matOk ⟨(m:Int)+1,j,V ++ row⟩:=by
   refine ⟨⟨by show 0<=(m:Int)+1;omega,by show (m:Int)+1<=12;omega⟩,⟨by show 0<=(j:Int);omega,by show (j:Int)<=12;omega⟩,?_,fun r hm=>?_⟩
   ·show ((V ++ row).length:Int)=((m:Int)+1)*j
    rw [List.length_append,hVl,r2,Int.add_mul,Int.one_mul]
    simp
   ·rcases List.mem_append.1 hm with hm | hm
    ·exact hK.val r hm
    ·obtain ⟨k,hk,rfl⟩:=List.mem_iff_getElem.1 hm
     have:=(r6 k (by omega)).1
     rwa [gd_lt hk] at this
  have emul:((m:Int)+1 - 1)*j=((m*j:Nat):Int):=by rw [Int.add_sub_cancel,Int.natCast_mul]
  refine W.req_i (by omega) (W.req_i (by show _/\_;omega) (W.req_i (by omega) (W.req_i (by omega) (W.req_i (by show _/\_;omega) (W.req_i (by omega) (W.req_i (by show _/\_;omega) (W.req_i (by omega) (W.bd (mat_Rank_run okM (r:=m+1) (c:=j) (by simp) rfl fun M piv hx=>?_)))))))))
  have hpl:=hx.le
  rw [if_pos rfl]
  refine W.run_if (fun c3=>hgo _ ⟨i+1,m+1,by simp,by omega,?_,by simp,rfl,?_⟩ (by simp;omega)) (fun c3=>?_)
  ·show ((piv.length:Nat):Int)=((m+1:Nat):Int)
   simp only at c3
   omega
  ·show Kept j (l.take (i+1)) (V ++ row) (m+1)
   rw [hsn]
   exact hK.keep hf r2 r6 hx (by simp only at c3;omega)
  ·rw [emul]
   refine W.req_i (by show _/\_;omega) (W.req_i (by show _/\_;omega) (W.req_i ⟨by omega,by rw [List.length_append,hVl];omega⟩ (hgo _ ⟨i+1,m,by simp,by omega,rfl,by simp,rfl,?_⟩ (by simp;omega))))
   show Kept j (l.take (i+1)) ((V ++ row).take (((m*j:Nat):Int)).toNat) m
   rw [Int.toNat_natCast,<- hVl,List.take_left,hsn]
   exact hK.leave hf (fun k hk=>(r6 k hk).2) hx (by simp only at c3;omega)
 ·obtain rfl:i=l.length:=by omega
  rw [List.take_length] at hK
  unfold clock_isBalanced.j1
  refine W.req_i (by show _/\_;omega) (H _ _ _ _ hlab hK ?_)
  rw [decide_eq_true_eq,setsL,List.length_map]
theorem Kept.bal {V:List api_Rat} {m:Nat} {lab:Nat->Nat} (ok:∀ f ∈ l,okF n f) (hlab:Lab (l.map fN) n lab) (h:Kept n l V m) (hc:(n:Int) - m=(rootN n lab).length):Bal n l:=by
 obtain ⟨M,piv,h1,h2⟩:=h.red
 refine bal_of ok hlab h1 h.ker (rs:=rootN n lab) (fun k=>?_) (by have:=h1.count;omega)
 unfold rootN
 rw [List.mem_filter,List.mem_range]
 simp
end
end Go.Proofs.Ytgbmmbfminafnaa.E
namespace Go.Proofs.Ytgbmmbfminafnaa.E
open Go Go.RowKit
theorem rat_cancel {a x y:Rat} (ha:0<a) (h:a*x=a*y):x=y:=by
 have:a*(x - y)=0:=by grind
 have:=rat_mul_zero (by grind) this
 grind
section
variable {n:Nat} {l:List api_Flow}
theorem Sat.prop {lab:Nat->Nat} {v y:Nat->Rat} (ok:∀ f ∈ l,okF n f) (hv:Sat l v) (hy:Sat l y) {m k:Nat} (h:Cn (l.map fN) m k):y k*v m=y m*v k:=by
 refine Cn.ind (P:=fun k=>y k*v m=y m*v k) (fun a b hm=>?_) h rfl
 obtain ⟨f,h1,rfl,rfl⟩:=es_mem hm
 have e1:=hv f h1
 have e2:=hy f h1
 constructor
 ·intro g
  refine rat_cancel (ok f h1).take ?_
  rw [<- Rat.mul_assoc,<- e2,Rat.mul_assoc,g]
  grind
 ·intro g
  refine rat_cancel (ok f h1).put ?_
  rw [<- Rat.mul_assoc,e2,Rat.mul_assoc,g]
  grind
theorem last_of {p:Nat->Prop} :∀ n k,k<n->p k->∃ k,k<n/\p k/\∀ q,k<q->q<n->¬ p q
 | 0,k,hk,_=>by omega
 | n+1,k,hk,hp=>by
  by_cases e:p n
  ·exact ⟨n,by omega,e,fun q h1 h2=>by omega⟩
  ·obtain ⟨k',h1,h2,h3⟩:=last_of n k (by
    rcases Nat.lt_or_ge k n with c | c
    ·exact c
    ·exact absurd ((by omega:k=n) ▸ hp) e) hp
   refine ⟨k',by omega,h2,fun q g1 g2=>?_⟩
   by_cases e2:q=n
   ·rw [e2];exact e
   ·exact h3 q g1 (by omega)
theorem Kept.count {V:List api_Rat} {m:Nat} {lab:Nat->Nat} (ok:∀ f ∈ l,okF n f) (hlab:Lab (l.map fN) n lab) (h:Kept n l V m) (hb:Bal n l):(n:Int) - m=(rootN n lab).length:=by
 obtain ⟨v,hv,hs⟩:=hb
 obtain ⟨M,piv,h1,h2⟩:=h.red
 have ha:=h1.aug0
 have nz:∀ y:Nat->Rat,Sat l y->∀ j k,j<n->k<n->lab j=lab k->y j≠0->y k≠0:=fun y hy j k hj hk e h0=>by
  have g1:=hs.prop (lab:=lab) ok hy (hlab j hj).2.1
  have g2:=hs.prop (lab:=lab) ok hy (hlab k hk).2.1
  intro z
  rw [z,Rat.zero_mul,<- e] at g2
  have vk:=hv k hk
  have yl:y (lab j)=0:=by
   have:v k*y (lab j)=0:=by grind
   exact rat_mul_zero (by grind) this
  rw [yl,Rat.zero_mul] at g1
  have vl:=hv (lab j) (hlab j hj).1
  exact h0 (rat_mul_zero (a:=v (lab j)) (by grind) (by grind))
 have cnt:=h1.count
 rw [freeL_fil] at cnt
 have fr:∀ j,j ∈ (List.range n).filter (fun k=>(pix piv k piv.length).isNone) ↔ j<n/\∃ y:Nat->Rat,Sat l y/\y j≠0/\∀ q,j<q->q<n->y q=0:=fun j=>by
  rw [List.mem_filter,List.mem_range]
  constructor
  ·rintro ⟨g1,g2⟩
   obtain ⟨y,y1,y2,y3⟩:=(ha.free_iff g1).1 (by simpa using g2)
   exact ⟨g1,y,(h.ker y).1 y1,y2,y3⟩
  ·rintro ⟨g1,y,y1,y2,y3⟩
   exact ⟨g1,by simpa using (ha.free_iff g1).2 ⟨y,(h.ker y).2 y1,y2,y3⟩⟩
 have rt:∀ k,k ∈ rootN n lab ↔ k<n/\lab k=k:=fun k=>by unfold rootN;rw [List.mem_filter,List.mem_range];simp
 have le1:((List.range n).filter (fun k=>(pix piv k piv.length).isNone)).length<=(rootN n lab).length:=by
  rw [<- List.length_map (as:=(List.range n).filter (fun k=>(pix piv k piv.length).isNone)) lab]
  refine (nodup_map (nodup_fil List.nodup_range) fun a b ha hb e=>?_).length_le_of_subset fun r hr=>?_
  ·obtain ⟨a1,y,y1,y2,y3⟩:=(fr a).1 ha
   obtain ⟨b1,z,z1,z2,z3⟩:=(fr b).1 hb
   rcases Nat.lt_trichotomy a b with g | g | g
   ·exact absurd (y3 b g b1) (nz y y1 a b a1 b1 e y2)
   ·exact g
   ·exact absurd (z3 a g a1) (nz z z1 b a b1 a1 e.symm z2)
  ·obtain ⟨j,hj,rfl⟩:=List.mem_map.1 hr
   have hj:=((fr j).1 hj).1
   exact (rt _).2 ⟨(hlab j hj).1,hlab.idem hj⟩
 have le2:(rootN n lab).length<=((List.range n).filter (fun k=>(pix piv k piv.length).isNone)).length:=by
  have hx:∀ r,∃ k,r ∈ rootN n lab->k<n/\lab k=r/\∀ q,k<q->q<n->¬ lab q=r:=fun r=>by
   by_cases e:r ∈ rootN n lab
   ·obtain ⟨r1,r2⟩:=(rt r).1 e
    obtain ⟨k,k1⟩:=last_of (p:=fun k=>lab k=r) n r r1 r2
    exact ⟨k,fun _=>k1⟩
   ·exact ⟨0,fun g=>absurd g e⟩
  obtain ⟨f,hf⟩:=Classical.axiomOfChoice hx
  rw [<- List.length_map (as:=rootN n lab) f]
  refine (nodup_map (nodup_fil List.nodup_range) fun a b ha hb e=>?_).length_le_of_subset fun j hj=>?_
  ·rw [<- (hf a ha).2.1,<- (hf b hb).2.1,e]
  ·obtain ⟨r,hr,rfl⟩:=List.mem_map.1 hj
   obtain ⟨f1,f2,f3⟩:=hf r hr
   refine (fr _).2 ⟨f1,fun k=>if lab k=r then v k else 0,fun g hg=>?_,?_,fun q q1 q2=>if_neg (f3 q q1 q2)⟩
   ·have e:=hs g hg
    have hl:=hlab.same (ok g hg).an (ok g hg).bn (Cn.refl.step (.inl (List.mem_map.2 ⟨g,hg,rfl⟩)))
    show (g.Put:Rat)*(if lab g.A.toNat=r then v g.A.toNat else 0)=g.Take*(if lab g.B.toNat=r then v g.B.toNat else 0)
    rw [hl]
    split
    ·exact e
    ·rw [Rat.mul_zero,Rat.mul_zero]
   ·show (if lab (f r)=r then v (f r) else 0)≠0
    rw [if_pos f2]
    have:=hv _ f1
    grind
 omega
theorem clock_isBalanced_iff {Q:Bool->Prop} (hn1:1<=n) (hn:n<=10) (hl:l.length<=64) (ok:∀ f ∈ l,okF n f) (H:∀ b,(b=true ↔ Bal n l)->Q b):(clock_isBalanced.f (n:Int) l).run Q:=
 clock_isBalanced_run hn1 hn hl ok fun b V m lab h1 h2 h3=>H b ⟨fun hb=>h2.bal ok h1 (h3.1 hb),fun hb=>h3.2 (h2.count ok h1 hb)⟩
end
end Go.Proofs.Ytgbmmbfminafnaa.E
