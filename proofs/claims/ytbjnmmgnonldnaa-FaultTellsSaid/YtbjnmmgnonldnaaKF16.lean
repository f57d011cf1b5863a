/- Joined. -/
import Derived.Test.YtbjnmmgnonldnaaKF13
set_option linter.unusedVariables false
set_option linter.unusedSimpArgs false
namespace Go.Proofs.Ytbjnmmgnonldnaa.E
open Go Go.RowKit
def keep (n:Nat) (left:List Int):List Int:=((List.range n).filter fun (i:Nat)=>decide ((i:Int) ∉ left)).map fun (i:Nat)=>(i:Int)
def Act (E:List (List Int)) (f left:List Int):Prop:=∃ t,t<(keep E.length left).length/\Od ((keep E.length left).map fun i=>gi E i) t/\gd (keep E.length left) t ∈ f
theorem keep_mem {n:Nat} {left:List Int} {x:Int} :x ∈ keep n left ↔ 0<=x/\x<n/\x ∉ left:=by
 unfold keep
 rw [List.mem_map]
 constructor
 ·rintro ⟨i,hi,rfl⟩
  obtain ⟨a,b⟩:=List.mem_filter.1 hi
  have:=List.mem_range.1 a
  exact ⟨by omega,by omega,of_decide_eq_true b⟩
 ·rintro ⟨a,b,c⟩
  exact ⟨x.toNat,List.mem_filter.2 ⟨List.mem_range.2 (by omega),decide_eq_true (by rwa [Int.toNat_of_nonneg a])⟩,by omega⟩
theorem keep_se {n:Nat} {left:List Int} :Se n (keep n left):=(Se.all n).sub (List.filter_sublist.map _)
theorem keep_all {n:Nat} :keep n [] =(List.range n).map fun (i:Nat)=>(i:Int):=keep_se.ext (Se.all n) fun x=>by
 rw [keep_mem,List.mem_map]
 constructor
 ·rintro ⟨a,b,_⟩
  exact ⟨x.toNat,List.mem_range.2 (by omega),by omega⟩
 ·rintro ⟨i,hi,rfl⟩
  have:=List.mem_range.1 hi
  exact ⟨by omega,by omega,by simp⟩
theorem keep_rws {E:List (List Int)} {C:Nat} (h:Rws E C) (left:List Int):Rws ((keep E.length left).map fun i=>gi E i) C:=fun r hr=>by
 rw [List.length_map] at hr
 have:=(keep_se (n:=E.length) (left:=left)).lt _ (gd_mem hr)
 rw [gd_lt (by simpa using hr),List.getElem_map,<- gd_lt hr,gi_gdi (show gd (keep E.length left) r=((gd (keep E.length left) r).toNat:Nat) by omega)]
 exact h _ (by omega)
theorem map_all {E:List (List Int)} :((List.range E.length).map fun (i:Nat)=>(i:Int)).map (fun i=>gi E i)=E:=by
 rw [List.map_map]
 refine list_gd_ext (by simp) fun k hk=>?_
 have hk:k<E.length:=by simpa using hk
 rw [gd_lt (by simpa using hk),List.getElem_map,List.getElem_range]
 exact gi_gd E k
theorem pick_all {m:api_Incidence} (hv:IncOk m):pick m ((List.range m.Rows.toNat).map fun (i:Nat)=>(i:Int))=m.E:=by
 have:=hv.len
 rw [show m.Rows.toNat=m.E.length by omega]
 exact map_all
theorem ifn_run {f l:List Int} {Q:Int->Prop} (H1:∀ i:Nat,i<f.length->gd f i ∈ l->(∀ j,j<i->gd f j ∉ l)->Q i) (H0:(∀ j,j<f.length->gd f j ∉ l)->Q (-1)):(slices_IndexFunc_int.f f l).run Q:=by
 unfold slices_IndexFunc_int.f
 refine W.loop_c (fun p=>∃ i:Nat,p=i/\i<=f.length/\∀ j,j<i->gd f j ∉ l) (fun p=>f.length - p.toNat) ⟨0,rfl,Nat.zero_le _,fun j hj=>by omega⟩ ?_
 rintro _ P ⟨i,rfl,hi,hr⟩ hgo hbrk hout
 unfold slices_IndexFunc_int.l1 fault_acts_1.f
 simp only [gi_gd]
 refine W.run_if (fun c=>W.req_i (by omega) (W.bd (W.bd (contains_iff fun b hb=>?_)))) fun c=>hbrk _ ?_
 ·show (if b=true then _ else _:W _).run P
  refine W.run_if (fun c2=>hout _ (H1 i (by omega) (hb.1 c2) hr)) fun c2=>hgo _ ⟨i+1,by simp,by omega,fun j hj=>?_⟩ (by simp;omega)
  by_cases e:j=i
  ·rw [e];exact fun g=>c2 (hb.2 g)
  ·exact hr j (by omega)
 ·obtain rfl:i=f.length:=by omega
  unfold slices_IndexFunc_int.j1
  exact H0 hr
theorem acts_run {f l:List Int} {Q:Bool->Prop} (H:∀ b,(b=true ↔ ∃ x,x ∈ f/\x ∈ l)->Q b):(fault_acts.f f l).run Q:=by
 unfold fault_acts.f slices_ContainsFunc_int.f
 refine W.bd (W.bd (ifn_run (fun i h1 h2 _=>?_) fun h=>?_))
 ·show Q _
  refine H _ ?_
  rw [decide_eq_true (by omega)]
  exact ⟨fun _=>⟨_,gd_mem h1,h2⟩,fun _=>rfl⟩
 ·show Q _
  refine H _ ?_
  rw [decide_eq_false (by omega)]
  refine ⟨fun g=>(by cases g),fun ⟨x,g1,g2⟩=>?_⟩
  obtain ⟨j,hj,rfl⟩:=List.mem_iff_getElem.1 g1
  exact absurd (by rwa [gd_lt hj]) (h j hj)
theorem meets_run {f l:List Int} {Q:Bool->Prop} (H:∀ b,(b=true ↔ ∃ x,x ∈ f/\x ∈ l)->Q b):(ref28_meets.f f l).run Q:=by
 unfold ref28_meets.f
 refine W.loop_c (fun p=>∃ i:Nat,p=i/\i<=f.length/\∀ j,j<i->gd f j ∉ l) (fun p=>f.length - p.toNat) ⟨0,rfl,Nat.zero_le _,fun j hj=>by omega⟩ ?_
 rintro _ P ⟨i,rfl,hi,hr⟩ hgo hbrk hout
 unfold ref28_meets.l1
 refine W.run_if (fun c=>?_) fun c=>hbrk _ ?_
 ·refine W.loop_c (fun p=>∃ k:Nat,p=k/\k<=l.length/\∀ j,j<k->gd f i≠gd l j) (fun p=>l.length - p.toNat) ⟨0,rfl,Nat.zero_le _,fun j hj=>by omega⟩ ?_
  rintro _ P2 ⟨k,rfl,hk,hr2⟩ hgo2 hbrk2 hout2
  unfold ref28_meets.l2
  simp only [gi_gd]
  refine W.run_if (fun c2=>W.req_i (by omega) (W.req_i (by omega) (W.run_if (fun c3=>hout2 _ (hout _ (H _ ⟨fun _=>⟨_,gd_mem (show i<f.length by omega),c3 ▸ gd_mem (by omega)⟩,fun _=>rfl⟩))) fun c3=>hgo2 _ ⟨k+1,by simp,by omega,fun j hj=>?_⟩ (by simp;omega)))) fun c2=>hbrk2 _ ?_
  ·by_cases e:j=k
   ·rw [e];exact c3
   ·exact hr2 j (by omega)
  ·unfold ref28_meets.j2
   refine hgo _ ⟨i+1,by simp,by omega,fun j hj=>?_⟩ (by simp;omega)
   by_cases e:j=i
   ·rw [e];intro g
    obtain ⟨x,hx,e2⟩:=List.mem_iff_getElem.1 g
    exact hr2 x (by omega) (by rw [gd_lt hx,e2])
   ·exact hr j (by omega)
 ·obtain rfl:i=f.length:=by omega
  unfold ref28_meets.j1
  refine H _ ⟨fun g=>(by cases g),fun ⟨x,g1,g2⟩=>?_⟩
  obtain ⟨j,hj,rfl⟩:=List.mem_iff_getElem.1 g1
  exact absurd (by rwa [gd_lt hj]) (hr j hj)
theorem keep_succ {t:Nat} {left:List Int} :keep (t+1) left=if (t:Int) ∈ left then keep t left else keep t left ++ [(t:Int)]:=by
 unfold keep
 rw [fil_snoc]
 by_cases c:(t:Int) ∈ left
 ·rw [if_pos c,if_neg (by simpa using c)]
 ·rw [if_neg c,if_pos (decide_eq_true c),List.map_append];rfl
theorem ref28_acts_run {E:List (List Int)} {C:Nat} {f left:List Int} {Q:Bool->Prop} (hR:Rws E C) (hC:C<=64) (hl:E.length<=64) (H:∀ b,(b=true ↔ Act E f left)->Q b):(ref28_acts.f E f left).run Q:=by
 unfold ref28_acts.f
 refine W.loop_c (fun s:List (List Int)×List Int×Int=>∃ t:Nat,s.2.2=t/\t<=E.length/\s.2.1=keep t left/\s.1=(keep t left).map fun i=>gi E i) (fun s=>E.length - s.2.2.toNat) ⟨0,rfl,Nat.zero_le _,rfl,rfl⟩ ?_
 rintro ⟨_,_,_⟩ P ⟨t,rfl,ht,rfl,rfl⟩ hgo hbrk hout
 simp only at hgo hbrk |-
 unfold ref28_acts.l2 ref28_acts.j4
 have kl:(keep t left).length<=t:=keep_se.len
 refine W.run_if (fun c=>W.bd (meets_run fun b hb=>W.run_if (fun c2=>hgo _ ⟨t+1,by simp,by omega,?_,?_⟩ (by simp;omega)) fun c2=>W.req_i (by omega) (W.req_i (by rw [List.length_map];omega) (W.req_i (by omega) (hgo _ ⟨t+1,by simp,by omega,?_,?_⟩ (by simp;omega)))))) fun c=>hbrk _ ?_
 ·show _=_
  obtain ⟨x,g1,g2⟩:=hb.1 c2
  rw [keep_succ,if_pos (List.mem_singleton.1 g1 ▸ g2)]
 ·show _=_
  obtain ⟨x,g1,g2⟩:=hb.1 c2
  rw [keep_succ,if_pos (List.mem_singleton.1 g1 ▸ g2)]
 ·show _ ++ _=_
  rw [keep_succ,if_neg fun g=>c2 (hb.2 ⟨_,List.mem_singleton.2 rfl,g⟩)]
 ·show _ ++ _=_
  rw [keep_succ,if_neg fun g=>c2 (hb.2 ⟨_,List.mem_singleton.2 rfl,g⟩),List.map_append];rfl
 obtain rfl:t=E.length:=by omega
 clear hgo hbrk hout
 unfold ref28_acts.j1
 refine W.bd (ref28_over_run (keep_rws hR left) hC (by rw [List.length_map];omega) fun o ho hg=>?_)
 rw [List.length_map] at ho hg
 refine W.loop_c (fun p=>∃ i:Nat,p=i/\i<=(keep E.length left).length/\∀ j,j<i->¬ (Od ((keep E.length left).map fun i=>gi E i) j/\gd (keep E.length left) j ∈ f)) (fun p=>(keep E.length left).length - p.toNat) ⟨0,rfl,Nat.zero_le _,fun j hj=>by omega⟩ ?_
 rintro _ P ⟨i,rfl,hi,hr⟩ hgo hbrk hout
 unfold ref28_acts.l1 ref28_acts.j3
 simp only [gi_gd,List.length_map]
 have next: ¬ (Od ((keep E.length left).map fun i=>gi E i) i/\gd (keep E.length left) i ∈ f)->i<(keep E.length left).length->P (.go ((i:Int)+1)):=fun h h2=>hgo _ ⟨i+1,by simp,by omega,fun j hj=>by
  by_cases e:j=i
  ·rw [e];exact h
  ·exact hr j (by omega)⟩ (by simp;omega)
 refine W.run_if (fun c=>W.req_i (by omega) (W.run_if (fun c2=>W.req_i (by omega) (W.bd (meets_run fun b hb=>W.run_if (fun c3=>hout _ (H _ ⟨fun _=>⟨i,by omega,(hg i (by omega)).1 c2,?_⟩,fun _=>rfl⟩)) fun c3=>next (fun g=>c3 (hb.2 ⟨_,List.mem_singleton.2 rfl,g.2⟩)) (by omega)))) fun c2=>next (fun g=>c2 ((hg i (by omega)).2 g.1)) (by omega))) fun c=>hbrk _ ?_
 ·obtain ⟨x,g1,g2⟩:=hb.1 c3
  exact List.mem_singleton.1 g1 ▸ g2
 ·obtain rfl:i=(keep E.length left).length:=by omega
  unfold ref28_acts.j2
  exact H _ ⟨fun g=>(by cases g),fun ⟨t,h1,h2,h3⟩=>absurd ⟨h2,h3⟩ (hr t h1)⟩
open Classical in
noncomputable def rdV (d:api_Diag) (e:Int):List Int×Int×Int:=
 if e≠0 then ([],0,e) else (((List.range d.M.E.length).filter fun t=>decide (Od d.M.E t)).map fun (i:Nat)=>(i:Int),(((List.range d.M.E.length).filter fun t=>decide (Od d.M.E t)).length:Int) - (((List.range d.M.Cols.toNat).filter fun k=>decide (Oc d.M.E k)).length:Int),0)
theorem fault_Redundant_run2 {d:api_Diag} {Q:List Int×Int×Int->Prop} (H:∀ e,DiagR d e->Q (rdV d e)):(fault_Redundant.f d).run Q:=by
 classical
 by_cases hk:DiagOk d
 ·refine fault_Redundant_run hk fun o ho=>?_
  have:=H 0 (.inl ⟨rfl,hk⟩)
  unfold rdV at this
  rw [if_neg (by simp)] at this
  rw [pick_all hk.m] at ho
  have hl:=hk.m.len
  rw [show d.M.Rows.toNat=d.M.E.length by omega] at ho
  have e1:o.1=((List.range d.M.E.length).filter fun t=>decide (Od d.M.E t)).map fun (i:Nat)=>(i:Int):=by
   rw [ho]
   unfold overV
   refine List.map_congr_left fun i hi=>?_
   have:i<d.M.E.length:=List.mem_range.1 (List.mem_filter.1 hi).1
   rw [gd_lt (by simpa using this),List.getElem_map,List.getElem_range]
  rw [e1,List.length_map,show o.2=(((List.range d.M.Cols.toNat).filter fun k=>decide (Oc d.M.E k)).length:Int) by rw [ho];rfl]
  exact this
 ·unfold fault_Redundant.f
  refine W.bd (fault_Validate_run fun e he=>W.run_if (fun c=>?_) fun c=>absurd (he.ok (by omega)) hk)
  have:=H e he
  unfold rdV at this
  rwa [if_pos c] at this
theorem ref28_Redundant_run {d:api_Diag} {Q:List Int×Int×Int->Prop} (H:∀ e,DiagR d e->Q (rdV d e)):(ref28_Redundant.f d).run Q:=by
 classical
 unfold ref28_Redundant.f
 refine W.bd (ref28_Validate_run fun e he=>?_)
 have H:=H e he
 unfold rdV at H
 refine W.run_if (fun c=>by rw [if_pos c] at H;exact H) fun c=>?_
 rw [if_neg c] at H
 have hk:=he.ok (by omega)
 have hl:=hk.m.len
 have r0:=hk.m.r0
 have c0:=hk.m.c0
 have c1:=hk.m.c1
 have r1:=hk.r
 obtain ⟨C,hC⟩:∃ C:Nat,d.M.Cols=C:=⟨d.M.Cols.toNat,by omega⟩
 rw [hC,Int.toNat_natCast] at H
 have hR:Rws d.M.E C:=fun r hr=>by have:=hk.m.asc r hr;rwa [hC] at this
 refine W.bd (ref28_over_run hR (by omega) (by omega) fun o ho hg=>?_)
 refine W.loop_c (fun s:List Int×List (Int×Bool)×Int=>∃ t:Nat,s.2.2=t/\t<=d.M.E.length/\s.1=((List.range t).filter fun t=>decide (Od d.M.E t)).map (fun (i:Nat)=>(i:Int))/\MapOk s.2.1 C/\∀ k:Nat,(k:Int) ∈ s.2.1.map (·.1) ↔ ∃ i,i<t/\Od d.M.E i/\k ∈ Ef d.M.E i) (fun s=>d.M.E.length - s.2.2.toNat) ⟨0,rfl,Nat.zero_le _,rfl,MapOk.nil,fun k=>⟨fun h=>(by cases h),fun ⟨i,h,_⟩=>absurd h (Nat.not_lt_zero _)⟩⟩ ?_
 rintro ⟨_,l,_⟩ P ⟨t,rfl,ht,rfl,hm,hu⟩ hgo hbrk hout
 simp only at hm hu hgo hbrk |-
 unfold ref28_Redundant.l1
 have fl:((List.range t).filter fun t=>decide (Od d.M.E t)).length<=t:=by
  have:=List.length_filter_le (fun t=>decide (Od d.M.E t)) (List.range t)
  simpa using this
 refine W.run_if (fun c2=>?_) fun c2=>hbrk _ ?_
 ·refine W.loop_c (fun s:List (Int×Bool)×Int=>∃ j:Nat,s.2=j/\j<=(gd d.M.E t).length/\MapOk s.1 C/\(j=0\/Od d.M.E t)/\∀ k:Nat,(k:Int) ∈ s.1.map (·.1) ↔ (∃ i,i<t/\Od d.M.E i/\k ∈ Ef d.M.E i)\/∃ j',j'<j/\k=gd (Ef d.M.E t) j') (fun s=>(gd d.M.E t).length - s.2.toNat) ⟨0,rfl,Nat.zero_le _,hm,.inl rfl,fun k=>by rw [hu];exact ⟨.inl,fun h=>h.elim id fun ⟨j',h,_⟩=>absurd h (Nat.not_lt_zero _)⟩⟩ ?_
  rintro ⟨l2,_⟩ P2 ⟨j,rfl,hj,hm2,hz,hu2⟩ hgo2 hbrk2 hout2
  simp only at hm2 hz hu2 hgo2 hbrk2 |-
  unfold ref28_Redundant.l2
  simp only [gi_gd]
  have done:(Od d.M.E t->j=(gd d.M.E t).length)->P2 (.brk (l2,(j:Int))):=fun h=>hbrk2 _ (by
   unfold ref28_Redundant.j3 ref28_Redundant.j2
   simp only [gi_gd]
   refine W.req_i (by omega) (W.run_if (fun c3=>W.req_i (by rw [List.length_map];omega) (hgo _ ⟨t+1,by simp,by omega,?_,hm2,fun k=>?_⟩ (by simp;omega))) fun c3=>hgo _ ⟨t+1,by simp,by omega,?_,hm2,fun k=>?_⟩ (by simp;omega))
   ·show _ ++ _=_
    rw [fil_snoc,if_pos (decide_eq_true ((hg t (by omega)).1 c3)),List.map_append];rfl
   ·have oz:=(hg t (by omega)).1 c3
    rw [hu2]
    constructor
    ·rintro (⟨i,h1,h2,h3⟩ | ⟨j',h1,h2⟩)
     ·exact ⟨i,by omega,h2,h3⟩
     ·refine ⟨t,by omega,oz,?_⟩
      rw [h2]
      exact gd_mem (by unfold Ef;rw [List.length_map];omega)
    ·rintro ⟨i,h1,h2,h3⟩
     by_cases e:i=t
     ·subst e
      obtain ⟨x,hx,e2⟩:=List.mem_iff_getElem.1 h3
      have hx2:x<(gd d.M.E i).length:=by unfold Ef at hx;rwa [List.length_map] at hx
      exact .inr ⟨x,by rw [h oz];exact hx2,by rw [gd_lt hx,e2]⟩
     ·exact .inl ⟨i,by omega,h2,h3⟩
   ·show _=_
    rw [fil_snoc,if_neg (by simpa using fun g=>c3 ((hg t (by omega)).2 g))]
   ·have oz: ¬ Od d.M.E t:=fun g=>c3 ((hg t (by omega)).2 g)
    have j0:j=0:=hz.resolve_right oz
    subst j0
    rw [hu2]
    constructor
    ·rintro (⟨i,h1,h2,h3⟩ | ⟨j',h1,h2⟩)
     ·exact ⟨i,by omega,h2,h3⟩
     ·exact absurd h1 (Nat.not_lt_zero _)
    ·rintro ⟨i,h1,h2,h3⟩
     by_cases e:i=t
     ·exact absurd (e ▸ h2) oz
     ·exact .inl ⟨i,by omega,h2,h3⟩)
  refine W.req_i (by omega) (W.run_if (fun c3=>W.req_i (by omega) (W.run_if (fun c4=>W.req_i (by omega) (W.req_i (by omega) ?_)) fun c4=>done fun _=>by omega)) fun c3=>done fun g=>absurd ((hg t (by omega)).2 g) c3)
  obtain ⟨k,hk1,hkC,hkE,hkt⟩:=Ef.at_ hR (r:=t) (t:=j) (by omega)
  have ml:=hm2.len
  rw [hk1]
  refine W.req_i (by omega) (hgo2 _ ⟨j+1,by simp,by omega,hm2.set hkC _,.inr ((hg t (by omega)).1 c3),fun k'=>?_⟩ (by simp;omega))
  show (k':Int) ∈ (aset l2 (k:Int) true).map (·.1) ↔ _
  have:(k':Int) ∈ (aset l2 (k:Int) true).map (·.1) ↔ (k':Int) ∈ l2.map (·.1)\/k'=k:=by
   rw [aset_keys]
   split
   ·rename_i g
    exact ⟨.inl,fun h=>h.elim id fun e=>by rw [e];exact g⟩
   ·rw [List.mem_append,List.mem_singleton]
    exact ⟨fun h=>h.imp id (by omega),fun h=>h.imp id (by omega)⟩
  rw [this,hu2,or_assoc]
  refine or_congr Iff.rfl ⟨?_,?_⟩
  ·rintro (⟨j',h1,h2⟩ | rfl)
   ·exact ⟨j',by omega,h2⟩
   ·exact ⟨j,by omega,hkt.symm⟩
  ·rintro ⟨j',h1,h2⟩
   by_cases e:j'=j
   ·subst e;exact .inr (h2.trans hkt)
   ·exact .inl ⟨j',by omega,h2⟩
 ·obtain rfl:t=d.M.E.length:=by omega
  unfold ref28_Redundant.j1
  have e:l.length=((List.range C).filter fun k=>decide (Oc d.M.E k)).length:=by
   have n1:((l.map (·.1)).map Int.toNat).Nodup:=nodup_map hm.nd fun a b ha hb e=>by
    have:=hm.lt a ha
    have:=hm.lt b hb
    omega
   have:=((List.perm_ext_iff_of_nodup n1 (nodup_fil (p:=fun k=>decide (Oc d.M.E k)) (List.nodup_range (n:=C)))).2 fun k=>?_).length_eq
   ·simpa using this
   rw [List.mem_filter,List.mem_range,decide_eq_true_iff,List.mem_map]
   constructor
   ·rintro ⟨x,hx,rfl⟩
    have:=hm.lt x hx
    refine ⟨by omega,?_⟩
    obtain ⟨i,h1,h2,h3⟩:=(hu x.toNat).1 (by rwa [Int.toNat_of_nonneg this.1])
    exact ⟨i,h2,h3⟩
   ·rintro ⟨_,i,h2,h3⟩
    exact ⟨(k:Int),(hu k).2 ⟨i,(hR.lt h3).2,h2,h3⟩,by simp⟩
  have H:=H
  rw [<- e] at H
  show Q (_,(((((List.range d.M.E.length).filter fun t=>decide (Od d.M.E t)).map fun (i:Nat)=>(i:Int)).length:Int) - (l.length:Int)),0)
  rw [List.length_map]
  exact H
end Go.Proofs.Ytbjnmmgnonldnaa.E
namespace Go.Proofs.Ytbjnmmgnonldnaa.E
open Go Go.RowKit
theorem gd_map {α β:Type} [Inhabited α] [Inhabited β] {f:α->β} {l:List α} {k:Nat} (h:k<l.length):gd (l.map f) k=f (gd l k):=by
 rw [gd_lt (by simpa using h),List.getElem_map,gd_lt h]
theorem ifn_v1 (f l:List Int):slices_IndexFunc_int_v1.f f l=slices_IndexFunc_int.f f l:=rfl
theorem del_run {l g:List Int} {Q:List Int->Prop} (hl:l.length<=1000) (H:Q (l.filter fun x=>decide (x ∉ g))):(slices_DeleteFunc_int.f l g).run Q:=by
 unfold slices_DeleteFunc_int.f
 rw [ifn_v1]
 refine W.bd (ifn_run (fun i h1 h2 h3=>W.run_if (fun c=>by omega) fun _=>?_) fun h=>W.run_if (fun _=>?_) fun c=>absurd rfl c)
 ·refine W.req_i (by show _/\_;omega) ?_
  refine W.loop_c (fun s:List Int×Int×Int=>∃ i j:Nat,s.2.1=i/\s.2.2=j/\i<=j/\j<=l.length/\s.1.length=l.length/\s.1.take i=(l.take j).filter (fun x=>decide (x ∉ g))/\∀ k,j<=k->k<l.length->gd s.1 k=gd l k) (fun s=>l.length - s.2.2.toNat) ⟨i,i+1,rfl,by simp,by omega,by omega,rfl,?_,fun k _ _=>rfl⟩ ?_
  ·show l.take i=_
   rw [List.take_add_one,List.getElem?_eq_getElem h1,List.filter_append]
   have e1:(l.take i).filter (fun x=>decide (x ∉ g))=l.take i:=List.filter_eq_self.2 fun x hx=>by
    obtain ⟨j,hj,rfl⟩:=List.mem_iff_getElem.1 hx
    have hj2:j<i:=by rw [List.length_take] at hj;omega
    have:=h3 j hj2
    rw [gd_lt (by omega)] at this
    rw [List.getElem_take]
    exact decide_eq_true this
   rw [gd_lt h1] at h2
   rw [e1]
   simp [h2]
  rintro ⟨s,_,_⟩ P ⟨i,j,rfl,rfl,hij,hj,hsl,ht,hs⟩ hgo hbrk hout
  simp only at hsl ht hs hgo hbrk |-
  unfold slices_DeleteFunc_int.l1 slices_DeleteFunc_int.j2 fault_without_1.f
  simp only [gi_gd]
  refine W.run_if (fun c=>W.req_i (by omega) (W.bd (W.bd (contains_iff fun b hb=>?_)))) fun c=>hbrk _ ?_
  ·rw [hs j (Nat.le_refl _) (by omega)] at hb
   show (if b=true then _ else _:W _).run P
   have tj:l.take (j+1)=l.take j ++ [gd l j]:=by rw [List.take_add_one,List.getElem?_eq_getElem (by omega),gd_lt (by omega)];rfl
   refine W.run_if (fun c2=>hgo _ ⟨i,j+1,rfl,by simp,by omega,by omega,hsl,?_,fun k h1 h2=>hs k (by omega) h2⟩ (by simp;omega)) fun c2=>W.req_i (by omega) (W.req_i (by show _/\_;omega) (hgo _ ⟨i+1,j+1,by simp,by simp,by omega,by omega,by simpa using hsl,?_,fun k h1 h2=>?_⟩ (by simp;omega)))
   ·rw [tj,List.filter_append,<- ht]
    simp [hb.1 c2]
   ·simp only [Int.toNat_natCast]
    rw [tj,List.filter_append,<- ht,List.take_add_one,List.getElem?_eq_getElem (by rw [List.length_set];omega),List.getElem_set_self,List.take_set_of_le (Nat.le_refl _),hs j (Nat.le_refl _) (by omega)]
    have:gd l j ∉ g:=fun k=>c2 (hb.2 k)
    simp [this]
   ·simp only [Int.toNat_natCast,gd_set]
    rw [if_neg fun e=>by have:=e.1;omega]
    exact hs k (by omega) h2
  ·obtain rfl:j=l.length:=by omega
   unfold slices_DeleteFunc_int.j1
   dsimp only
   refine W.req_i (by omega) (W.req_i (by rw [List.length_append,List.length_take,List.length_replicate];omega) ?_)
   show Q _
   rw [Int.toNat_natCast,List.take_left' (by rw [List.length_take];omega),ht,List.take_length]
   exact H
 ·show Q _
  rwa [List.filter_eq_self.2 fun x hx=>by
   obtain ⟨j,hj,rfl⟩:=List.mem_iff_getElem.1 hx
   have:=h j hj
   rw [gd_lt hj] at this
   exact decide_eq_true this] at H
theorem without_run {m:api_Incidence} {R:Nat} {g:List Int} {Q:List Int->Prop} (hR:m.Rows=R) (h:R<=64) (H:Q (keep R g)):(fault_without.f m g).run Q:=by
 unfold fault_without.f
 rw [hR]
 refine W.bd (fault_all_run h (W.bd (del_run (by simp;omega) ?_)))
 show Q _
 rw [List.filter_map]
 exact H
theorem over_act {E:List (List Int)} {C:Nat} {f left:List Int} :(∃ x,x ∈ f/\x ∈ (overV ((keep E.length left).map fun i=>gi E i) C (keep E.length left)).1) ↔ Act E f left:=by
 classical
 unfold overV Act
 simp only [List.mem_map,List.mem_filter,List.mem_range,decide_eq_true_iff,List.length_map]
 constructor
 ·rintro ⟨x,h1,t,⟨h2,h3⟩,rfl⟩
  exact ⟨t,h2,h3,h1⟩
 ·rintro ⟨t,h2,h3,h1⟩
  exact ⟨_,h1,t,⟨h2,h3⟩,rfl⟩
open Classical in
noncomputable def dtV (d:api_Diag) (e:Int):List Bool×Int:=if e≠0 then ([],e) else (d.Faults.map fun f=>decide (Act d.M.E f []),0)
theorem rd_act {d:api_Diag} {f:List Int} :(∃ x,x ∈ f/\x ∈ (rdV d 0).1) ↔ Act d.M.E f []:=by
 classical
 unfold rdV Act
 rw [if_neg (by simp),keep_all,map_all]
 simp only [List.mem_map,List.mem_filter,List.mem_range,decide_eq_true_iff,List.length_map,List.length_range]
 constructor
 ·rintro ⟨x,h1,t,⟨h2,h3⟩,rfl⟩
  refine ⟨t,h2,h3,?_⟩
  rwa [gd_lt (by simpa using h2),List.getElem_map,List.getElem_range]
 ·rintro ⟨t,h2,h3,h1⟩
  rw [gd_lt (by simpa using h2),List.getElem_map,List.getElem_range] at h1
  exact ⟨_,h1,t,⟨h2,h3⟩,rfl⟩
theorem map_take_succ {α β:Type} [Inhabited α] {l:List α} {f:α->β} {t:Nat} (ht:t<l.length):(l.take (t+1)).map f=(l.take t).map f ++ [f (gd l t)]:=by
 rw [List.take_add_one,List.getElem?_eq_getElem ht,List.map_append,gd_lt ht];rfl
theorem fault_Detected_run {d:api_Diag} {Q:List Bool×Int->Prop} (H:∀ e,DiagR d e->Q (dtV d e)):(fault_Detected.f d).run Q:=by
 classical
 unfold fault_Detected.f
 refine W.bd (fault_Redundant_run2 fun e he=>?_)
 have H:=H e he
 have e3:(rdV d e).2.2=e:=by
  unfold rdV
  split
  ·rfl
  ·show (0:Int)=e
   omega
 unfold dtV at H
 rw [e3]
 refine W.run_if (fun c=>by rw [if_pos c] at H;exact H) fun c=>?_
 rw [if_neg c] at H
 obtain rfl:e=0:=by omega
 have hk:=he.ok rfl
 have:=hk.f
 refine W.loop_c (fun s:List Bool×Int=>∃ t:Nat,s.2=t/\t<=d.Faults.length/\s.1=(d.Faults.take t).map fun f=>decide (Act d.M.E f [])) (fun s=>d.Faults.length - s.2.toNat) ⟨0,rfl,Nat.zero_le _,rfl⟩ ?_
 rintro ⟨_,_⟩ P ⟨t,rfl,ht,rfl⟩ hgo hbrk hout
 simp only at hgo hbrk |-
 unfold fault_Detected.l1
 simp only [gi_gd]
 refine W.run_if (fun c1=>W.req_i (by omega) (W.bd (acts_run fun b hb=>W.req_i (by rw [List.length_map,List.length_take];omega) (hgo _ ⟨t+1,by simp,by omega,?_⟩ (by simp;omega))))) fun c1=>hbrk _ ?_
 ·show _ ++ _=_
  rw [map_take_succ (by omega)]
  congr 2
  rw [Bool.eq_iff_iff,hb,decide_eq_true_iff,rd_act]
 ·obtain rfl:t=d.Faults.length:=by omega
  unfold fault_Detected.j1
  rw [List.take_length]
  exact H
theorem ref28_Detected_run {d:api_Diag} {Q:List Bool×Int->Prop} (H:∀ e,DiagR d e->Q (dtV d e)):(ref28_Detected.f d).run Q:=by
 classical
 unfold ref28_Detected.f
 refine W.bd (ref28_Validate_run fun e he=>?_)
 have H:=H e he
 unfold dtV at H
 refine W.run_if (fun c=>by rw [if_pos c] at H;exact H) fun c=>?_
 rw [if_neg c] at H
 have hk:=he.ok (by omega)
 have:=hk.f
 have hl:=hk.m.len
 have c0:=hk.m.c0
 have c1:=hk.m.c1
 have r1:=hk.r
 obtain ⟨C,hC⟩:∃ C:Nat,d.M.Cols=C:=⟨d.M.Cols.toNat,by omega⟩
 have hR:Rws d.M.E C:=fun r hr=>by have:=hk.m.asc r hr;rwa [hC] at this
 refine W.loop_c (fun s:List Bool×Int=>∃ t:Nat,s.2=t/\t<=d.Faults.length/\s.1=(d.Faults.take t).map fun f=>decide (Act d.M.E f [])) (fun s=>d.Faults.length - s.2.toNat) ⟨0,rfl,Nat.zero_le _,rfl⟩ ?_
 rintro ⟨_,_⟩ P ⟨t,rfl,ht,rfl⟩ hgo hbrk hout
 simp only at hgo hbrk |-
 unfold ref28_Detected.l1
 simp only [gi_gd]
 refine W.run_if (fun c1=>W.req_i (by omega) (W.bd (ref28_acts_run hR (by omega) (by omega) fun b hb=>W.req_i (by rw [List.length_map,List.length_take];omega) (hgo _ ⟨t+1,by simp,by omega,?_⟩ (by simp;omega))))) fun c1=>hbrk _ ?_
 ·show _ ++ _=_
  rw [map_take_succ (by omega)]
  congr 2
  rw [Bool.eq_iff_iff,hb,decide_eq_true_iff]
 ·obtain rfl:t=d.Faults.length:=by omega
  unfold ref28_Detected.j1
  rw [List.take_length]
  exact H
open Classical in
noncomputable def apV (d:api_Diag) (e:Int):List (List Bool)×Int:=if e≠0 then ([],e) else (d.Faults.map fun f=>d.Faults.map fun g=>decide (Act d.M.E f g),0)
theorem fault_Apart_run {d:api_Diag} {Q:List (List Bool)×Int->Prop} (H:∀ e,DiagR d e->Q (apV d e)):(fault_Apart.f d).run Q:=by
 classical
 unfold fault_Apart.f
 refine W.bd (fault_Validate_run fun e he=>?_)
 have H:=H e he
 unfold apV at H
 refine W.run_if (fun c=>by rw [if_pos c] at H;exact H) fun c=>?_
 rw [if_neg c] at H
 have hk:=he.ok (by omega)
 have hf:=hk.f
 have hl:=hk.m.len
 have c0:=hk.m.c0
 have c1:=hk.m.c1
 have r1:=hk.r
 obtain ⟨C,hC⟩:∃ C:Nat,d.M.Cols=C:=⟨d.M.Cols.toNat,by omega⟩
 refine W.req_i (by omega) ?_
 rw [Int.toNat_natCast]
 refine W.loop_c (fun s:List (List Bool)×Int=>∃ t:Nat,s.2=t/\t<=d.Faults.length/\s.1.length=d.Faults.length/\∀ i,i<d.Faults.length->gd s.1 i=(d.Faults.take t).map fun g=>decide (Act d.M.E (gd d.Faults i) g)) (fun s=>d.Faults.length - s.2.toNat) ⟨0,rfl,Nat.zero_le _,by simp,fun i hi=>by rw [gd_rep _ _ hi];rfl⟩ ?_
 rintro ⟨o,_⟩ P ⟨t,rfl,ht,ho,hg⟩ hgo hbrk hout
 simp only at ho hg hgo hbrk |-
 unfold fault_Apart.l1
 simp only [gi_gd]
 refine W.run_if (fun c1=>W.req_i (by omega) (W.bd (without_run hl.symm (by omega) (W.bd (fault_over_run hC (by omega) (by have:=keep_se (n:=d.M.E.length) (left:=gd d.Faults t) |>.len;omega) (fun i hi=>keep_se.lt i hi) (pick_rws hk.m hC (by rw [<- hl];exact keep_se)) ?_))))) fun c1=>hbrk _ ?_
 ·refine W.loop_c (fun s:List (List Bool)×Int=>∃ i:Nat,s.2=i/\i<=d.Faults.length/\s.1.length=d.Faults.length/\∀ k,k<d.Faults.length->gd s.1 k=(d.Faults.take (if k<i then t+1 else t)).map fun g=>decide (Act d.M.E (gd d.Faults k) g)) (fun s=>d.Faults.length - s.2.toNat) ⟨0,rfl,Nat.zero_le _,ho,fun k hk=>by rw [if_neg (Nat.not_lt_zero _)];exact hg k hk⟩ ?_
  rintro ⟨o2,_⟩ P2 ⟨i,rfl,hi,ho2,hg2⟩ hgo2 hbrk2 hout2
  simp only at ho2 hg2 hgo2 hbrk2 |-
  unfold fault_Apart.l2
  simp only [gi_gd]
  refine W.run_if (fun c2=>W.req_i (by omega) (W.req_i (by omega) (W.bd (acts_run fun b hb=>W.req_i (by rw [hg2 i (by omega),List.length_map,List.length_take];omega) (W.req_i (by omega) (hgo2 _ ⟨i+1,by simp,by omega,by simpa using ho2,fun k hk=>?_⟩ (by simp;omega))))))) fun c2=>hbrk2 _ ?_
  ·simp only [gd_set,Int.toNat_natCast]
   by_cases e:i=k
   ·subst e
    rw [if_pos ⟨rfl,by omega⟩,if_pos (by omega),hg2 i hk,if_neg (by omega),map_take_succ (by omega)]
    congr 2
    have h2:=hb
    rw [show pick d.M (keep d.M.E.length (gd d.Faults t))=(keep d.M.E.length (gd d.Faults t)).map fun i=>gi d.M.E i from rfl,over_act] at h2
    rw [Bool.eq_iff_iff,h2,decide_eq_true_iff]
   ·rw [if_neg fun g=>e g.1,hg2 k hk]
    by_cases e2:k<i
    ·rw [if_pos e2,if_pos (by omega)]
    ·rw [if_neg e2,if_neg (by omega)]
  ·obtain rfl:i=d.Faults.length:=by omega
   unfold fault_Apart.j2
   exact hgo _ ⟨t+1,by simp,by omega,ho2,fun k hk=>by rw [hg2 k hk,if_pos hk]⟩ (by simp;omega)
 ·obtain rfl:t=d.Faults.length:=by omega
  unfold fault_Apart.j1
  show Q (o,0)
  rwa [show o=d.Faults.map fun f=>d.Faults.map fun g=>decide (Act d.M.E f g) from list_gd_ext (by simpa using ho) fun k hk=>by
   rw [hg k (by omega),List.take_length,gd_map (by omega)]]
theorem ref28_Apart_run {d:api_Diag} {Q:List (List Bool)×Int->Prop} (H:∀ e,DiagR d e->Q (apV d e)):(ref28_Apart.f d).run Q:=by
 classical
 unfold ref28_Apart.f
 refine W.bd (ref28_Validate_run fun e he=>?_)
 have H:=H e he
 unfold apV at H
 refine W.run_if (fun c=>by rw [if_pos c] at H;exact H) fun c=>?_
 rw [if_neg c] at H
 have hk:=he.ok (by omega)
 have hf:=hk.f
 have hl:=hk.m.len
 have c0:=hk.m.c0
 have c1:=hk.m.c1
 have r1:=hk.r
 obtain ⟨C,hC⟩:∃ C:Nat,d.M.Cols=C:=⟨d.M.Cols.toNat,by omega⟩
 have hR:Rws d.M.E C:=fun r hr=>by have:=hk.m.asc r hr;rwa [hC] at this
 refine W.loop_c (fun s:List (List Bool)×Int=>∃ t:Nat,s.2=t/\t<=d.Faults.length/\s.1=(d.Faults.take t).map fun f=>d.Faults.map fun g=>decide (Act d.M.E f g)) (fun s=>d.Faults.length - s.2.toNat) ⟨0,rfl,Nat.zero_le _,rfl⟩ ?_
 rintro ⟨_,_⟩ P ⟨t,rfl,ht,rfl⟩ hgo hbrk hout
 simp only at hgo hbrk |-
 unfold ref28_Apart.l1
 rw [Int.toNat_natCast]
 refine W.run_if (fun c1=>?_) fun c1=>hbrk _ ?_
 ·refine W.loop_c (fun s:List Bool×Int=>∃ i:Nat,s.2=i/\i<=d.Faults.length/\s.1.length=d.Faults.length/\∀ k,k<i->gd s.1 k=decide (Act d.M.E (gd d.Faults t) (gd d.Faults k))) (fun s=>d.Faults.length - s.2.toNat) ⟨0,rfl,Nat.zero_le _,by simp,fun k hk=>by omega⟩ ?_
  rintro ⟨o,_⟩ P2 ⟨i,rfl,hi,ho,hg⟩ hgo2 hbrk2 hout2
  simp only at ho hg hgo2 hbrk2 |-
  unfold ref28_Apart.l2
  simp only [gi_gd]
  refine W.run_if (fun c2=>W.req_i (by omega) (W.req_i (by omega) (W.bd (ref28_acts_run hR (by omega) (by omega) fun b hb=>W.req_i (by omega) (hgo2 _ ⟨i+1,by simp,by omega,by simpa using ho,fun k hk=>?_⟩ (by simp;omega)))))) fun c2=>hbrk2 _ ?_
  ·simp only [gd_set,Int.toNat_natCast]
   by_cases e:i=k
   ·subst e
    rw [if_pos ⟨rfl,by omega⟩,Bool.eq_iff_iff,hb,decide_eq_true_iff]
   ·rw [if_neg fun g=>e g.1];exact hg k (by omega)
  ·obtain rfl:i=d.Faults.length:=by omega
   unfold ref28_Apart.j3 ref28_Apart.j2
   refine W.req_i (by rw [List.length_map,List.length_take];omega) (hgo _ ⟨t+1,by simp,by omega,?_⟩ (by simp;omega))
   show _ ++ [o] =_
   rw [map_take_succ (by omega)]
   congr 2
   exact list_gd_ext (by simpa using ho) fun k hk=>by rw [hg k (by omega),gd_map (by omega)]
 ·obtain rfl:t=d.Faults.length:=by omega
  unfold ref28_Apart.j1
  rw [List.take_length]
  exact H
theorem sameBools_run {a b:List Bool} {Q:Bool->Prop} (H0:a=b->Q true) (H1:a≠b->Q false):(law28_sameBools.f a b).run Q:=by
 unfold law28_sameBools.f
 refine W.loop_c (fun p=>∃ t:Nat,p=t/\t<=a.length/\t<=b.length/\∀ j,j<t->gd a j=gd b j) (fun p=>a.length - p.toNat) ⟨0,rfl,Nat.zero_le _,Nat.zero_le _,fun j hj=>by omega⟩ ?_
 rintro _ P ⟨t,rfl,ht,ht2,hj⟩ hgo hbrk hout
 unfold law28_sameBools.l1
 simp only [gi_gd]
 have done: ¬ (t<a.length/\t<b.length)->P (.brk (t:Int)):=fun h=>hbrk _ (by
  unfold law28_sameBools.j1
  show Q _
  by_cases e:a.length=b.length
  ·rw [decide_eq_true (by omega)]
   exact H0 (list_gd_ext e fun k hk=>hj k (by omega))
  ·rw [decide_eq_false (by omega)]
   exact H1 fun g=>e (by rw [g]))
 refine W.run_if (fun c=>W.run_if (fun c2=>W.req_i (by omega) (W.req_i (by omega) (W.run_if (fun c3=>hgo _ ⟨t+1,by simp,by omega,by omega,fun j hj'=>?_⟩ (by simp;omega)) fun c3=>hout _ (H1 fun g=>c3 (by rw [g];simp))))) fun c2=>done (by omega)) fun c=>done (by omega)
 by_cases e:j=t
 ·rw [e];exact eq_of_beq c3
 ·exact hj j (by omega)
theorem sameRows_run {a b:List (List Bool)} {Q:Bool->Prop} (H0:a=b->Q true) (H1:a≠b->Q false):(law28_sameRows.f a b).run Q:=by
 unfold law28_sameRows.f
 refine W.loop_c (fun p=>∃ t:Nat,p=t/\t<=a.length/\t<=b.length/\∀ j,j<t->gd a j=gd b j) (fun p=>a.length - p.toNat) ⟨0,rfl,Nat.zero_le _,Nat.zero_le _,fun j hj=>by omega⟩ ?_
 rintro _ P ⟨t,rfl,ht,ht2,hj⟩ hgo hbrk hout
 unfold law28_sameRows.l1
 simp only [gi_gd]
 have done: ¬ (t<a.length/\t<b.length)->P (.brk (t:Int)):=fun h=>hbrk _ (by
  unfold law28_sameRows.j1
  show Q _
  by_cases e:a.length=b.length
  ·rw [decide_eq_true (by omega)]
   exact H0 (list_gd_ext e fun k hk=>hj k (by omega))
  ·rw [decide_eq_false (by omega)]
   exact H1 fun g=>e (by rw [g]))
 refine W.run_if (fun c=>W.run_if (fun c2=>W.req_i (by omega) (W.req_i (by omega) (W.bd (sameBools_run (fun g=>W.run_if (fun _=>hgo _ ⟨t+1,by simp,by omega,by omega,fun j hj'=>?_⟩ (by simp;omega)) fun c=>absurd rfl c) fun g=>W.run_if (fun c=>by cases c) fun _=>hout _ (H1 fun k=>g (by rw [k])))))) fun c2=>done (by omega)) fun c=>done (by omega)
 by_cases e:j=t
 ·rw [e];exact g
 ·exact hj j (by omega)
theorem tells_run {d:api_Diag} :(law28_FaultTells.f d).run (· =true):=by
 unfold law28_FaultTells.f
 refine W.bd (fault_Redundant_run2 fun e1 h1=>W.bd (ref28_Redundant_run fun e2 h2=>W.bd (fault_Validate_run fun e3 h3=>W.bd (ref28_Validate_run fun e4 h4=>?_))))
 obtain rfl:=h1.uniq h2
 obtain rfl:=h1.uniq h3
 obtain rfl:=h1.uniq h4
 refine W.run_if (fun c=>absurd rfl c) fun _=>W.run_if (fun c=>absurd rfl c) fun _=>W.run_if (fun c=>absurd rfl c) fun _=>?_
 refine W.bd (Same_run (fun _=>W.run_if (fun _=>?_) fun c=>absurd rfl c) fun g=>absurd rfl g)
 refine W.bd (fault_Detected_run fun e5 h5=>W.bd (ref28_Detected_run fun e6 h6=>?_))
 obtain rfl:=h5.uniq h6
 refine W.run_if (fun c=>absurd rfl c) fun _=>W.bd (sameBools_run (fun _=>W.run_if (fun _=>?_) fun c=>absurd rfl c) fun g=>absurd rfl g)
 refine W.bd (fault_Apart_run fun e7 h7=>W.bd (ref28_Apart_run fun e8 h8=>?_))
 obtain rfl:=h7.uniq h8
 refine W.run_if (fun _=>W.bd (sameRows_run (fun _=>W.run_if (fun _=>W.bd (known_run ?_)) fun c=>absurd rfl c) fun g=>absurd rfl g)) fun c=>absurd rfl c
 rfl
end Go.Proofs.Ytbjnmmgnonldnaa.E
