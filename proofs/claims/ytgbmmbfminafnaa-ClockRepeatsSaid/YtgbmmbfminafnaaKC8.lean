/- What clock.Repeats computes. -/
import Derived.Test.YtgbmmbfminafnaaKC6
set_option linter.unusedVariables false
set_option linter.unusedSimpArgs false
namespace Go.Proofs.Ytgbmmbfminafnaa.E
open Go Go.RowKit
theorem Prim.congr {n r:Nat} {l:List api_Flow} {T T':Nat->Int} (h:Prim n l r T) (ok:∀ f ∈ l,okF n f) (he:∀ k,k<n->Cn (l.map fN) r k->T' k=T k):Prim n l r T':=by
 refine ⟨fun k hk hc=>by rw [he k hk hc];exact h.pos k hk hc,fun f hf hc=>?_,fun d hd=>h.cop d fun k hk hc=>by rw [<- he k hk hc];exact hd k hk hc⟩
 rw [he _ (ok f hf).an hc,he _ (ok f hf).bn (hc.step (.inl (List.mem_map.2 ⟨f,hf,rfl⟩)))]
 exact h.sat f hf hc
theorem Prim.to {n r r':Nat} {l:List api_Flow} {T:Nat->Int} (h:Prim n l r T) (hc:Cn (l.map fN) r r'):Prim n l r' T:=
 ⟨fun k hk c=>h.pos k hk (hc.trans c),fun f hf c=>h.sat f hf (hc.trans c),fun d hd=>h.cop d fun k hk c=>hd k hk (hc.symm.trans c)⟩
theorem nodup_gd {L:List Nat} (h:L.Nodup) {i j:Nat} (hi:i<L.length) (hj:j<L.length) (e:gd L i=gd L j):i=j:=by
 rw [gd_lt hi,gd_lt hj] at e
 have hp:=List.pairwise_iff_getElem.1 h
 rcases Nat.lt_trichotomy i j with g | g | g
 ·exact absurd e (hp i j hi hj g)
 ·exact g
 ·exact absurd e.symm (hp j i hj hi g)
def RepOk (N:Nat) (l:List api_Flow) (o:List Int×Int×Int) (T:Nat->Int):Prop:=(∀ r,r<N->Prim N l r T)/\(∀ k,k<N->T k<=64)/\o.2=(0,0)/\o.1.length=N/\∀ k,k<N->gd o.1 k=T k
def RepR (n:Int) (l:List api_Flow) (o:List Int×Int×Int):Prop:=
 (∃ e,e≠0/\FlowsR n l e/\o=([],0,e))\/(Good n l/\((∃ i:Nat,i<l.length/\¬ Bal n.toNat (l.take (i+1))/\(∀ j,j<i->Bal n.toNat (l.take (j+1)))/\o=([],(i:Int),9))\/
  ((∀ j,j<l.length->Bal n.toNat (l.take (j+1)))/\((∃ r T k,r<n.toNat/\Prim n.toNat l r T/\k<n.toNat/\Cn (l.map fN) r k/\64<T k/\o=([],0,3))\/∃ T,RepOk n.toNat l o T))))
theorem bal_all {n:Nat} {l:List api_Flow} (h:∀ j,j<l.length->Bal n (l.take (j+1))):Bal n l:=by
 rcases Nat.eq_zero_or_pos l.length with e | e
 ·exact ⟨fun _=>1,fun k hk=>by show (0:Rat)<1;decide,fun f hf=>by rw [List.length_eq_zero_iff.1 e] at hf;simp at hf⟩
 ·have:=h (l.length - 1) (by omega)
  rwa [List.take_of_length_le (by omega)] at this
section
variable {N:Nat} {l:List api_Flow} {Q:List Int×Int×Int->Prop}
theorem rep_sets (hN1:1<=N) (hN:N<=10) (hl:l.length<=64) (ok:∀ f ∈ l,okF N f) (hb:Bal N l) (H3:∀ r T k,r<N->Prim N l r T->k<N->Cn (l.map fN) r k->64<T k->Q ([],0,3)) (H:∀ o T,RepOk N l o T->Q o):(clock_Repeats.j1 (N:Int) l).run Q:=by
 obtain ⟨v,hv,hs⟩:=hb
 unfold clock_Repeats.j1
 rw [Int.toNat_natCast]
 refine W.req_i (by omega) (W.bd (clock_joined_run hN hl ok fun lab hlab=>?_))
 have rt:∀ k,k ∈ rootN N lab ↔ k<N/\lab k=k:=fun k=>by unfold rootN;rw [List.mem_filter,List.mem_range];simp
 have mm:∀ r,r ∈ rootN N lab->∀ k,k ∈ memN N lab r ↔ k<N/\Cn (l.map fN) r k:=fun r hr k=>by
  obtain ⟨r1,r2⟩:=(rt r).1 hr
  unfold memN
  rw [List.mem_filter,List.mem_range,beq_iff_eq]
  refine and_congr_right fun hk=>⟨fun e=>e ▸ (hlab k hk).2.1,fun c=>?_⟩
  rw [<- hlab.same r1 hk c,r2]
 have hsl:(setsL N lab).length=(rootN N lab).length:=by unfold setsL;rw [List.length_map]
 have hrl:(rootN N lab).length<=N:=by
  have:=List.length_filter_le (fun k=>lab k == k) (List.range N)
  simpa [rootN] using this
 refine W.loop_c (fun s:List Int×Int=>∃ (t:Nat) (T:Nat->Int),s.2=t/\t<=(rootN N lab).length/\s.1.length=N/\∀ i,i<t->Prim N l (gd (rootN N lab) i) T/\∀ k,k<N->Cn (l.map fN) (gd (rootN N lab) i) k->gd s.1 k=T k/\T k<=64) (fun s=>(rootN N lab).length - s.2.toNat) ⟨0,fun _=>0,rfl,Nat.zero_le _,by simp,fun i hi=>by omega⟩ ?_
 rintro ⟨o,_⟩ P ⟨t,T,rfl,ht,ho,hT⟩ hgo hbrk hout
 simp only at ho hT hgo |-
 unfold clock_Repeats.l1
 rw [hsl]
 refine W.run_if (fun c=>?_) (fun c=>hbrk _ ?_)
 ·have hr:=gd_mem (show t<(rootN N lab).length by omega)
  have hrt:=hT
  generalize hrr:gd (rootN N lab) t=r at hr
  obtain ⟨r1,r2⟩:=(rt r).1 hr
  have hmem:=mm r hr
  have h45:gi (setsL N lab) (t:Int)=(memN N lab r).map toZ:=by
   rw [gi_gd,gd_lt (by omega)]
   unfold setsL
   rw [List.getElem_map,<- hrr,gd_lt (by omega)]
  have hml:(memN N lab r).length<=N:=by
   have:=List.length_filter_le (fun k=>lab k == r) (List.range N)
   simpa [memN] using this
  have hm1:1<=(memN N lab r).length:=List.length_pos_of_mem ((hmem r).2 ⟨r1,.refl⟩)
  have hnd:(memN N lab r).Nodup:=nodup_fil List.nodup_range
  generalize memN N lab r=mem at hmem h45 hml hm1 hnd
  have hm0:=gd_mem (show 0<mem.length by omega)
  have g0:gi (mem.map toZ) 0=((gd mem 0:Nat):Int):=toZ_at (t:=0) (by omega)
  generalize gd mem 0=r0 at hm0 g0
  obtain ⟨z1,z2⟩:=(hmem r0).1 hm0
  have hv0:=hv r0 z1
  obtain ⟨w,hw,hwp,hw1⟩:∃ w:Nat->Rat,Sat l w/\(∀ k,k<N->0<w k)/\w r0=1:=⟨fun k=>v k / v r0,fun f hf=>by
   have:=hs f hf
   show (f.Put:Rat)*(v f.A.toNat / v r0)=f.Take*(v f.B.toNat / v r0)
   rw [Rat.div_def,Rat.div_def,<- Rat.mul_assoc,this,Rat.mul_assoc],fun k hk=>by
   show 0<v k / v r0
   rw [Rat.div_def]
   exact Rat.mul_pos (hv k hk) (Rat.inv_pos.2 hv0),by
   show v r0 / v r0=1
   rw [Rat.div_def];exact Rat.mul_inv_cancel _ (by grind)⟩
  refine W.req_i (by omega) (W.req_i (by omega) ?_)
  rw [h45,List.length_map,g0,Int.toNat_natCast]
  refine W.req_i (by omega) (W.bd (num_Q_Int_run (by show _/\_;omega) fun one hone=>?_))
  have hone:QRep one 1:=by simpa using hone
  simp only [List.length_replicate,Int.toNat_natCast]
  refine W.req_i (by omega) ?_
  have row0:RowQ ((List.replicate N zQ).set r0 one) N (fun k=>k == r0) w 1:=by
   refine ⟨by simp,fun k hk hu=>?_,fun k hk hu=>?_⟩
   ·rw [gd_set,if_pos ⟨(beq_iff_eq.1 hu).symm,by simpa using hk⟩,beq_iff_eq.1 hu,hw1]
    exact ⟨hone,Sz.one⟩
   ·rw [gd_set,if_neg (fun g=>by rw [g.1] at hu;simp at hu)]
    rw [gd_lt (by simpa using hk),List.getElem_replicate]
  refine W.loop_c (fun s:List num_Q×Int=>∃ (q:Nat) (U:Nat->Bool),s.2=q/\q<=mem.length/\RowQ s.1 N U w (1+384*q)/\(∀ k,U k=true->Cn (l.map fN) r k)/\U r0=true/\(CloF l U\/q+1<=cntU N U)) (fun s=>mem.length - s.2.toNat) ⟨0,fun k=>k == r0,rfl,Nat.zero_le _,row0,fun k hk=>by rw [beq_iff_eq.1 hk];exact z2,by simp,.inr ?_⟩ ?_
  ·exact List.length_pos_of_mem (a:=r0) (List.mem_filter.2 ⟨List.mem_range.2 z1,by simp⟩)
  rintro ⟨p,_⟩ P2 ⟨q,U,rfl,hq,hR,hU,hU0,hC⟩ hgo2 hbrk2 hout2
  simp only at hR hgo2 |-
  unfold clock_Repeats.l5
  rw [h45,List.length_map]
  refine W.run_if (fun c2=>?_) (fun c2=>hbrk2 _ ?_)
  ·refine rep_round hl ok hw (by omega) hR hU fun p' i' U' hR' hS'=>?_
   unfold clock_Repeats.j7
   exact hgo2 _ ⟨q+1,U',by simp,by omega,hR'.mono (by omega),hS'.cn,hS'.up _ hU0,hS'.done hC⟩ (by simp;omega)
  ·obtain rfl:q=mem.length:=by omega
   have hcl:CloF l U:=by
    rcases hC with hC | hC
    ·exact hC
    ·exfalso
     have:cntU N U<=mem.length:=(nodup_fil List.nodup_range).length_le_of_subset fun k hk=>by
      obtain ⟨k1,k2⟩:=List.mem_filter.1 hk
      exact (hmem k).2 ⟨List.mem_range.1 k1,hU k k2⟩
     omega
   have hall:∀ k ∈ mem,U k=true:=fun k hk=>by
    refine Cn.ind (P:=fun k=>U k=true) (fun a b hm=>?_) (z2.symm.trans ((hmem k).1 hk).2) hU0
    obtain ⟨f,f1,rfl,rfl⟩:=es_mem hm
    obtain ⟨e,he,rfl⟩:=List.mem_iff_getElem.1 f1
    have:=hcl e he
    rw [gd_lt he] at this
    rw [this]
   refine rep_set hN (S:=1+384*mem.length) (by omega) hm1 (by omega) hmem ok hw hwp h45 hR.len (fun k hk=>hR.yes k ((hmem k).1 hk).1 (hall k hk)) ho (fun T hP ⟨k,k1,k2⟩=>hout _ (H3 r T k r1 hP ((hmem k).1 k1).1 ((hmem k).1 k1).2 k2)) fun T' o' hP h64 hl' hg'=>?_
   refine hgo _ ⟨t+1,fun k=>if k ∈ mem then T' k else T k,by simp,by omega,hl',fun i hi=>?_⟩ (by simp;omega)
   by_cases e:i=t
   ·rw [e,hrr]
    refine ⟨hP.congr ok fun k hk hc=>if_pos ((hmem k).2 ⟨hk,hc⟩),fun k hk hc=>?_⟩
    have hkm:=(hmem k).2 ⟨hk,hc⟩
    rw [hg' k hk,if_pos hkm]
    show T' k=(if k ∈ mem then T' k else T k)/\(if k ∈ mem then T' k else T k)<=64
    rw [if_pos hkm]
    exact ⟨rfl,h64 k hkm⟩
   ·obtain ⟨hP0,hT0⟩:=hT i (by omega)
    have hri:=gd_mem (show i<(rootN N lab).length by omega)
    obtain ⟨i1,i2⟩:=(rt _).1 hri
    have hne:∀ k,k<N->Cn (l.map fN) (gd (rootN N lab) i) k->¬ k ∈ mem:=fun k hk hc hkm=>by
     have e1:=hlab.same i1 r1 (hc.trans ((hmem k).1 hkm).2.symm)
     rw [i2,r2,<- hrr] at e1
     have:=nodup_gd (L:=rootN N lab) (nodup_fil List.nodup_range) (by omega) (by omega) e1
     omega
    refine ⟨hP0.congr ok fun k hk hc=>if_neg (hne k hk hc),fun k hk hc=>?_⟩
    rw [hg' k hk,if_neg (hne k hk hc)]
    show gd o k=(if k ∈ mem then T' k else T k)/\(if k ∈ mem then T' k else T k)<=64
    rw [if_neg (hne k hk hc)]
    exact hT0 k hk hc
 ·obtain rfl:t=(rootN N lab).length:=by omega
  unfold clock_Repeats.j2
  have all:∀ k,k<N->∃ i,i<(rootN N lab).length/\Cn (l.map fN) (gd (rootN N lab) i) k:=fun k hk=>by
   obtain ⟨i,hi,e⟩:=List.mem_iff_getElem.1 ((rt (lab k)).2 ⟨(hlab k hk).1,hlab.idem hk⟩)
   exact ⟨i,hi,by rw [gd_lt hi,e];exact (hlab k hk).2.1⟩
  refine H _ T ⟨fun r hr=>?_,fun k hk=>?_,rfl,ho,fun k hk=>?_⟩
  ·obtain ⟨i,hi,hc⟩:=all r hr
   exact (hT i hi).1.to hc
  ·obtain ⟨i,hi,hc⟩:=all k hk
   exact ((hT i hi).2 k hk hc).2
  ·obtain ⟨i,hi,hc⟩:=all k hk
   exact ((hT i hi).2 k hk hc).1
theorem clock_Repeats_run {n:Int} (H:∀ o,RepR n l o->Q o):(clock_Repeats.f n l).run Q:=by
 unfold clock_Repeats.f
 refine W.bd (clock_flows_run fun e he=>W.run_if (fun c=>H _ (.inl ⟨e,c,he,rfl⟩)) fun c=>?_)
 have g:Good n l:=by
  rcases he with ⟨_,h⟩ | ⟨h,_⟩ | ⟨h,_⟩
  ·exact h
  ·omega
  ·omega
 obtain ⟨gl,g0,g1,ok⟩:=g
 obtain ⟨N,rfl⟩:∃ N:Nat,n=N:=⟨n.toNat,by omega⟩
 rw [Int.toNat_natCast] at ok
 refine W.loop_c (fun p=>∃ i:Nat,p=i/\i<=l.length/\∀ j,j<i->Bal N (l.take (j+1))) (fun p=>l.length - p.toNat) ⟨0,rfl,Nat.zero_le _,fun j hj=>by omega⟩ ?_
 rintro _ P ⟨i,rfl,hi,hb⟩ hgo hbrk hout
 unfold clock_Repeats.l7
 rw [show ((i:Int)+1).toNat=i+1 by omega]
 refine W.run_if (fun c1=>W.req_i (by omega) (W.bd (clock_isBalanced_iff (by omega) (by omega) (by rw [List.length_take];omega) (fun f hf=>ok f (List.mem_of_mem_take hf)) fun b hb'=>W.run_if (fun cb=>hgo _ ⟨i+1,by simp,by omega,fun j hj=>?_⟩ (by simp;omega)) fun cb=>hout _ (H _ (.inr ⟨⟨gl,g0,g1,by simpa using ok⟩,.inl ⟨i,by omega,by rw [Int.toNat_natCast];exact fun h=>cb (hb'.2 h),by rw [Int.toNat_natCast];exact hb,rfl⟩⟩))))) fun c1=>hbrk _ ?_
 ·by_cases e:j=i
  ·rw [e];exact hb'.1 cb
  ·exact hb j (by omega)
 ·obtain rfl:i=l.length:=by omega
  refine rep_sets (by omega) (by omega) gl ok (bal_all hb) (fun r T k h1 h2 h3 h4 h5=>H _ (.inr ⟨⟨gl,g0,g1,by simpa using ok⟩,.inr ⟨by simpa using hb,.inl ⟨r,T,k,by simpa using h1,by simpa using h2,by simpa using h3,h4,h5,rfl⟩⟩⟩)) fun o T h=>H _ (.inr ⟨⟨gl,g0,g1,by simpa using ok⟩,.inr ⟨by simpa using hb,.inr ⟨T,by simpa using h⟩⟩⟩)
end
end Go.Proofs.Ytgbmmbfminafnaa.E
