/- Joined. -/
import Derived.Test.YtbjnmmgnonldnaaKF4
set_option linter.unusedVariables false
set_option linter.unusedSimpArgs false
namespace Go.Proofs.Ytbjnmmgnonldnaa.E
open Go Go.RowKit
section
variable {E:Nat->List Nat} {n c:Nat} {row col row' col':Nat->Option Nat}
open Classical in
theorem Mch.ztight (h:Mch E n row col) (hE:∀ r k,r<n->k ∈ E r->k<c):Tight (fun i k=>k ∈ E i) (List.range n) row (fun i=>decide (Zr E n row col i)) ((List.range c).filter fun k=>decide (Zc E n row col k)):=by
 refine ⟨⟨nodup_fil List.nodup_range,fun i k hi hr hk=>?_⟩,fun i hi hn=>?_,fun k hk=>?_⟩
 ·exact List.mem_filter.2 ⟨List.mem_range.2 (hE i k (List.mem_range.1 hi) hk),decide_eq_true ⟨i,of_decide_eq_true hr,hk⟩⟩
 ·exact decide_eq_true ⟨i,List.mem_range.1 hi,hn,.refl⟩
 ·obtain ⟨i,h1,h2⟩:=h.zc (of_decide_eq_true (List.mem_filter.1 hk).2)
  exact ⟨i,List.mem_range.2 (h.zlt h2),decide_eq_true h2,(h.prs.rc i k).2 h1⟩
theorem zr_sub (h:Mch E n row col) (h':Mch E n row' col') (hE:∀ r k,r<n->k ∈ E r->k<c) {i:Nat} (hi:Zr E n row' col' i):Zr E n row col i:=by
 classical
 have hm:=(h.tight hE).1
 have hm':=(h'.tight hE).1
 have t:=h.ztight hE
 have t':=h'.ztight hE
 have e:=Tight.same List.nodup_range hm t hm' t'
 have s:=t.sz List.nodup_range hm
 have t2:=t.bar.tight List.nodup_range hm' (by omega)
 have cl:=t2.clo hm'
 obtain ⟨j,h1,h2,h3⟩:=hi
 have:∀ i,Rfr E col' j i->i<n/\Zr E n row col i:=fun i h3=>by
  induction h3 with
  | refl=>exact ⟨h1,of_decide_eq_true (cl.un j (List.mem_range.2 h1) h2)⟩
  | step _ a b ih=>
   have hr:=(h'.prs.rc _ _).2 b
   have lt:=h'.lt hr
   exact ⟨lt,of_decide_eq_true (cl.st _ _ _ (List.mem_range.2 ih.1) (List.mem_range.2 lt) (decide_eq_true ih.2) a hr)⟩
 exact (this i h3).2
theorem zr_same (h:Mch E n row col) (h':Mch E n row' col') (hE:∀ r k,r<n->k ∈ E r->k<c) {i:Nat} :Zr E n row col i ↔ Zr E n row' col' i:=⟨fun g=>zr_sub h' h hE g,fun g=>zr_sub h h' hE g⟩
end
def Ef (L:List (List Int)) (r:Nat):List Nat:=(gd L r).map Int.toNat
def Od (L:List (List Int)) (i:Nat):Prop:=∃ row col,Mch (Ef L) L.length row col/\Zr (Ef L) L.length row col i
def Oc (L:List (List Int)) (k:Nat):Prop:=∃ i,Od L i/\k ∈ Ef L i
def Rws (L:List (List Int)) (c:Nat):Prop:=∀ r,r<L.length->Asc (gd L r) c
section
variable {L:List (List Int)} {c:Nat}
theorem gd_none {α:Type} [Inhabited α] {l:List α} {r:Nat} (h:l.length<=r):gd l r=default:=by
 unfold gd
 rw [List.getD_eq_getElem?_getD,List.getElem?_eq_none h]
 rfl
theorem Rws.lt (h:Rws L c) {r k:Nat} (hk:k ∈ Ef L r):k<c/\r<L.length:=by
 obtain ⟨z,hz,rfl⟩:=List.mem_map.1 hk
 rcases Nat.lt_or_ge r L.length with g | g
 ·obtain ⟨t,ht,rfl⟩:=List.mem_iff_getElem.1 hz
  have:=h r g t ht
  rw [gd_lt ht] at this
  exact ⟨by omega,g⟩
 ·rw [gd_none g] at hz;cases hz
theorem Od.iff (h:Rws L c) {row col:Nat->Option Nat} (hM:Mch (Ef L) L.length row col) {i:Nat} :Zr (Ef L) L.length row col i ↔ Od L i:=
 ⟨fun g=>⟨row,col,hM,g⟩,fun ⟨r2,c2,h1,h2⟩=>(zr_same (c:=c) hM h1 fun r k _ hk=>(h.lt hk).1).2 h2⟩
theorem Oc.iff (h:Rws L c) {row col:Nat->Option Nat} (hM:Mch (Ef L) L.length row col) {k:Nat} :Zc (Ef L) L.length row col k ↔ Oc L k:=
 ⟨fun ⟨i,g1,g2⟩=>⟨i,(Od.iff h hM).1 g1,g2⟩,fun ⟨i,g1,g2⟩=>⟨i,(Od.iff h hM).2 g1,g2⟩⟩
end
def pick (m:api_Incidence) (eqs:List Int):List (List Int):=eqs.map fun i=>gi m.E i
open Classical in
noncomputable def overV (L:List (List Int)) (c:Nat) (eqs:List Int):List Int×Int:=(((List.range L.length).filter fun t=>decide (Od L t)).map (gd eqs),((((List.range c).filter fun k=>decide (Oc L k)).length:Nat):Int))
theorem fil_snoc (p:Nat->Bool) (n:Nat):(List.range (n+1)).filter p=if p n=true then (List.range n).filter p ++ [n] else (List.range n).filter p:=by
 rw [List.range_succ,List.filter_append]
 cases h:p n <;> simp [h]
theorem pick_gd {m:api_Incidence} {eqs:List Int} {t:Nat} (ht:t<eqs.length):gd (pick m eqs) t=gi m.E (gd eqs t):=by
 unfold pick
 rw [gd_lt (by simpa using ht),List.getElem_map,gd_lt ht]
theorem fault_over_run {m:api_Incidence} {eqs:List Int} {C:Nat} {Q:List Int×Int->Prop} (hC:m.Cols=C) (hc:C<=64) (he:eqs.length<=64) (hin:∀ i ∈ eqs,0<=i/\i<m.E.length) (hr:Rws (pick m eqs) C) (H:Q (overV (pick m eqs) C eqs)):(fault_over.f m eqs).run Q:=by
 classical
 unfold fault_over.f
 rw [hC]
 refine W.loop_c (fun s:Int×Int×List (List Int)×Int=>∃ t:Nat,s.1=eqs.length/\s.2.1=C/\s.2.2.2=t/\t<=eqs.length/\s.2.2.1=(eqs.take t).map fun i=>gi m.E i) (fun s=>eqs.length - s.2.2.2.toNat) ⟨0,rfl,rfl,rfl,Nat.zero_le _,rfl⟩ ?_
 rintro ⟨_,_,l,_⟩ P ⟨t,rfl,rfl,rfl,ht,hl⟩ hgo hbrk hout
 simp only at hl hgo hbrk |-
 subst hl
 unfold fault_over.l3
 simp only [gi_gd]
 refine W.run_if (fun c=>W.req_i (by omega) ?_) fun c=>hbrk _ ?_
 ·have:=hin _ (gd_mem (show t<eqs.length by omega))
  refine W.req_i (by omega) (W.req_i (by rw [List.length_map,List.length_take];omega) (hgo _ ⟨t+1,rfl,rfl,by simp,by omega,?_⟩ (by simp;omega)))
  show _ ++ _=_
  rw [List.take_add_one,List.getElem?_eq_getElem (by omega),List.map_append,gd_lt (by omega)]
  rfl
 obtain rfl:t=eqs.length:=by omega
 clear hgo hbrk hout
 rw [List.take_length]
 have pl:(pick m eqs).length=eqs.length:=by unfold pick;rw [List.length_map]
 unfold fault_over.j1
 have ok:IncOk (⟨eqs.length,C,pick m eqs⟩:api_Incidence):=⟨by simp,by simp only;omega,by simp,by simp only;omega,by simp only;omega,fun r hr'=>hr r hr'⟩
 have el:El (⟨eqs.length,C,pick m eqs⟩:api_Incidence)=Ef (pick m eqs):=rfl
 show (W.bind (match_Parts.f (⟨eqs.length,C,pick m eqs⟩:api_Incidence)) _).run Q
 refine W.bd (parts_run ok fun row col rows cols hP=>?_)
 simp only [Int.toNat_natCast] at hP
 obtain ⟨h1,h2,h3,h4,h5⟩:=hP
 rw [el,<- pl] at h3 h4
 rw [el,<- pl] at h5
 have rz:∀ i,i<eqs.length->(gd rows i=0 ↔ Od (pick m eqs) i):=fun i hi=>(h4 i (by omega)).trans (Od.iff hr h3)
 have cz:∀ k,k<C->(gd cols k=0 ↔ Oc (pick m eqs) k):=fun k hk=>(h5 k hk).trans (Oc.iff hr h3)
 refine W.loop_c (fun s:List Int×Int=>∃ t:Nat,s.2=t/\t<=eqs.length/\s.1=((List.range t).filter fun t=>decide (Od (pick m eqs) t)).map (gd eqs)) (fun s=>eqs.length - s.2.toNat) ⟨0,rfl,Nat.zero_le _,rfl⟩ ?_
 rintro ⟨o,_⟩ P ⟨t,rfl,ht,rfl⟩ hgo hbrk hout
 simp only at hgo hbrk |-
 unfold fault_over.l2
 simp only [gi_gd]
 have ol:((List.range t).filter fun t=>decide (Od (pick m eqs) t)).length<=t:=by
  have:=List.length_filter_le (fun t=>decide (Od (pick m eqs) t)) (List.range t)
  simpa using this
 refine W.run_if (fun c=>W.req_i (by omega) (W.run_if (fun c2=>W.req_i (by omega) (W.req_i (by rw [List.length_map];omega) (hgo _ ⟨t+1,by simp,by omega,?_⟩ (by simp;omega)))) fun c2=>hgo _ ⟨t+1,by simp,by omega,?_⟩ (by simp;omega))) fun c=>hbrk _ ?_
 ·show _ ++ _=_
  rw [fil_snoc,if_pos (decide_eq_true ((rz t (by omega)).1 c2)),List.map_append]
  rfl
 ·show _=_
  rw [fil_snoc,if_neg (by simpa using fun h=>c2 ((rz t (by omega)).2 h))]
 obtain rfl:t=eqs.length:=by omega
 clear hgo hbrk hout ol
 unfold fault_over.j2
 refine W.loop_c (fun s:Int×Int=>∃ t:Nat,s.2=t/\t<=C/\s.1=((((List.range t).filter fun k=>decide (Oc (pick m eqs) k)).length:Nat):Int)) (fun s=>C - s.2.toNat) ⟨0,rfl,Nat.zero_le _,rfl⟩ ?_
 rintro ⟨o,_⟩ P ⟨t,rfl,ht,rfl⟩ hgo hbrk hout
 simp only at hgo hbrk |-
 unfold fault_over.l1
 simp only [gi_gd]
 have ol:((List.range t).filter fun k=>decide (Oc (pick m eqs) k)).length<=t:=by
  have:=List.length_filter_le (fun k=>decide (Oc (pick m eqs) k)) (List.range t)
  simpa using this
 refine W.run_if (fun c=>W.req_i (by omega) (W.run_if (fun c2=>W.req_i (by show _/\_;omega) (hgo _ ⟨t+1,by simp,by omega,?_⟩ (by simp;omega))) fun c2=>hgo _ ⟨t+1,by simp,by omega,?_⟩ (by simp;omega))) fun c=>hbrk _ ?_
 ·show _=_
  rw [fil_snoc,if_pos (decide_eq_true ((cz t (by omega)).1 c2)),List.length_append]
  simp
 ·show _=_
  rw [fil_snoc,if_neg (by simpa using fun h=>c2 ((cz t (by omega)).2 h))]
 obtain rfl:t=C:=by omega
 unfold fault_over.j3
 unfold overV at H
 rw [pl] at H
 exact H
theorem fault_all_run {n:Nat} {Q:List Int->Prop} (hn:n<=64) (H:Q ((List.range n).map fun (i:Nat)=>(i:Int))):(fault_all.f (n:Int)).run Q:=by
 unfold fault_all.f
 rw [Int.toNat_natCast]
 refine W.req_i (by omega) ?_
 refine W.loop_c (fun s:List Int×Int=>∃ i:Nat,s.2=i/\i<=n/\s.1.length=n/\∀ k,k<i->gd s.1 k=k) (fun s=>n - s.2.toNat) ⟨0,rfl,Nat.zero_le _,by simp,fun k hk=>by omega⟩ ?_
 rintro ⟨o,_⟩ P ⟨i,rfl,hi,ho,hg⟩ hgo hbrk hout
 simp only at ho hg hgo hbrk |-
 unfold fault_all.l1
 rw [Int.toNat_natCast,List.length_replicate,Int.toNat_natCast]
 refine W.run_if (fun c=>W.req_i (by omega) (hgo _ ⟨i+1,by simp,by omega,by simpa using ho,fun k hk=>?_⟩ (by simp;omega))) fun c=>hbrk _ ?_
 ·show gd (o.set i _) k=_
  rw [gd_set]
  by_cases e:i=k
  ·rw [if_pos ⟨e,by omega⟩,e]
  ·rw [if_neg fun g=>e g.1];exact hg k (by omega)
 ·obtain rfl:i=n:=by omega
  unfold fault_all.j1
  show Q o
  rwa [show o=(List.range i).map fun (i:Nat)=>(i:Int) from list_gd_ext (by simpa using ho) fun k hk=>by rw [hg k (by omega),gd_lt (by simp;omega),List.getElem_map,List.getElem_range]]
end Go.Proofs.Ytbjnmmgnonldnaa.E
namespace Go.Proofs.Ytbjnmmgnonldnaa.E
open Go Go.RowKit
section
variable {V:Type}
theorem alook_aset {K:Type} [DecidableEq K]:∀ (l:List (K×V)) (k:K) (v:V) (k':K),alook (aset l k v) k'=if k'=k then some v else alook l k'
 | [],k,v,k'=>by simp only [aset,alook]
 | p ::l,k,v,k'=>by
  unfold aset
  by_cases c:k=p.1
  ·rw [if_pos c]
   unfold alook
   by_cases d:k'=k
   ·rw [if_pos d,if_pos d]
   ·rw [if_neg d,if_neg d,if_neg (by rwa [<- c])]
  ·rw [if_neg c]
   unfold alook
   by_cases d:k'=p.1
   ·rw [if_pos d,if_pos d,if_neg (fun e=>c (e.symm.trans d))]
   ·rw [if_neg d,if_neg d,alook_aset l k v k']
theorem aset_keys {K:Type} [DecidableEq K]:∀ (l:List (K×V)) (k:K) (v:V),(aset l k v).map (·.1)=if k ∈ l.map (·.1) then l.map (·.1) else l.map (·.1) ++ [k]
 | [],k,v=>by simp [aset]
 | p ::l,k,v=>by
  unfold aset
  by_cases c:k=p.1
  ·rw [if_pos c];simp [c]
  ·rw [if_neg c,List.map_cons,aset_keys l k v,List.map_cons]
   by_cases d:k ∈ l.map (·.1)
   ·rw [if_pos d,if_pos (List.mem_cons_of_mem _ d)]
   ·rw [if_neg d,if_neg (fun g=>(List.mem_cons.1 g).elim c d)];rfl
end
end Go.Proofs.Ytbjnmmgnonldnaa.E
namespace Go.Proofs.Ytbjnmmgnonldnaa.E
open Go Go.RowKit
theorem sorted_ext {α:Type} {R:α->α->Prop} (as:∀ a b,R a b->¬ R b a):∀ {l l':List α},l.Pairwise R->l'.Pairwise R->(∀ x,x ∈ l ↔ x ∈ l')->l=l'
 | [],[],_,_,_=>rfl
 | [],b ::l',_,_,h=>absurd ((h b).2 (List.mem_cons_self ..)) (by simp)
 | a ::l,[],_,_,h=>absurd ((h a).1 (List.mem_cons_self ..)) (by simp)
 | a ::l,b ::l',h1,h2,h=>by
  obtain ⟨a1,a2⟩:=List.pairwise_cons.1 h1
  obtain ⟨b1,b2⟩:=List.pairwise_cons.1 h2
  have e:a=b:=Classical.byContradiction fun c=>by
   have x:a ∈ l':=by
    rcases List.mem_cons.1 ((h a).1 (List.mem_cons_self ..)) with g | g
    ·exact absurd g c
    ·exact g
   have y:b ∈ l:=by
    rcases List.mem_cons.1 ((h b).2 (List.mem_cons_self ..)) with g | g
    ·exact absurd g.symm c
    ·exact g
   exact as _ _ (b1 a x) (a1 b y)
  subst e
  have irr:∀ x,R x x->False:=fun x g=>as _ _ g g
  rw [sorted_ext as a2 b2 fun x=>⟨fun hx=>?_,fun hx=>?_⟩]
  ·rcases List.mem_cons.1 ((h x).1 (List.mem_cons_of_mem _ hx)) with g | g
   ·exact absurd (a1 x hx) (fun k=>irr _ (g ▸ k))
   ·exact g
  ·rcases List.mem_cons.1 ((h x).2 (List.mem_cons_of_mem _ hx)) with g | g
   ·exact absurd (b1 x hx) (fun k=>irr _ (g ▸ k))
   ·exact g
structure Se (n:Int) (l:List Int):Prop where
 so:l.Pairwise (· < ·)
 lt:∀ x,x ∈ l->0<=x/\x<n
section
variable {n:Int} {l l':List Int}
theorem Se.nd (h:Se n l):l.Nodup:=List.Pairwise.imp (fun h e=>by omega) h.so
theorem Se.sub (h:Se n l) (s:l'.Sublist l):Se n l':=⟨h.so.sublist s,fun x hx=>h.lt x (s.subset hx)⟩
theorem Se.ext (h:Se n l) {n':Int} (h':Se n' l') (e:∀ x,x ∈ l ↔ x ∈ l'):l=l':=sorted_ext (fun a b h=>by omega) h.so h'.so e
theorem Se.len {N:Nat} (h:Se N l):l.length<=N:=by
 have n:(l.map Int.toNat).Nodup:=nodup_map h.nd fun a b ha hb e=>by
  have:=h.lt a ha
  have:=h.lt b hb
  omega
 have:=n.length_le_of_subset (l₂:=List.range N) fun x hx=>by
  obtain ⟨k,hk,rfl⟩:=List.mem_map.1 hx
  have:=h.lt k hk
  exact List.mem_range.2 (by omega)
 simpa using this
theorem Se.all (N:Nat):Se N ((List.range N).map fun (i:Nat)=>(i:Int)):=⟨List.pairwise_map.2 (List.Pairwise.imp (fun h=>by omega) List.pairwise_lt_range),fun x hx=>by
 obtain ⟨k,hk,rfl⟩:=List.mem_map.1 hx
 have:=List.mem_range.1 hk
 omega⟩
theorem sub_of_subset:∀ {l l':List Int},l.Pairwise (· < ·)->l'.Pairwise (· < ·)->l ⊆ l'->l.Sublist l'
 | [],l',_,_,_=>List.nil_sublist l'
 | a ::l,[],_,_,h=>absurd (h (List.mem_cons_self ..)) (by simp)
 | a ::l,b ::l',h1,h2,h=>by
  obtain ⟨a1,a2⟩:=List.pairwise_cons.1 h1
  obtain ⟨b1,b2⟩:=List.pairwise_cons.1 h2
  by_cases e:a=b
  ·subst e
   refine (sub_of_subset a2 b2 fun x hx=>?_).cons_cons a
   rcases List.mem_cons.1 (h (List.mem_cons_of_mem _ hx)) with g | g
   ·have:=a1 x hx;omega
   ·exact g
  ·refine (sub_of_subset h1 b2 fun x hx=>?_).cons b
   rcases List.mem_cons.1 (h hx) with g | g
   ·subst g
    rcases List.mem_cons.1 hx with k | k
    ·exact absurd k.symm e
    ·have:=a1 x k
     rcases List.mem_cons.1 (h (List.mem_cons_self ..)) with m | m
     ·exact absurd m e
     ·have:=b1 a m;omega
   ·exact g
end
def vl:List Int->Int
 | []=>0
 | a ::l=>(a+1)*10 ^ l.length+vl l
def D10 (l:List Int):Prop:=∀ x,x ∈ l->0<=x/\x<10
theorem D10.tl {a:Int} {l:List Int} (h:D10 (a ::l)):D10 l:=fun x hx=>h x (List.mem_cons_of_mem _ hx)
theorem Se.d10 {n:Int} {l:List Int} (h:Se n l) (hn:n<=10):D10 l:=fun x hx=>by have:=h.lt x hx;omega
theorem p10 (n:Nat):(0:Int)<10 ^ n:=Int.pow_pos (by decide)
theorem vl_bd:∀ {l:List Int},D10 l->10 ^ l.length<=9*vl l+1/\9*vl l+10<=10*10 ^ l.length
 | [],_=>by simp [vl]
 | a ::l,h=>by
  obtain ⟨h1,h2⟩:=vl_bd h.tl
  have ha:=h a (List.mem_cons_self ..)
  have p:=p10 l.length
  have m1:=Int.mul_le_mul_of_nonneg_right (show 1<=a+1 by omega) (Int.le_of_lt p)
  have m2:=Int.mul_le_mul_of_nonneg_right (show a+1<=10 by omega) (Int.le_of_lt p)
  simp only [vl,List.length_cons,Int.pow_succ]
  omega
theorem vl_len {l l':List Int} (h:D10 l) (h':D10 l') (g:l.length<l'.length):vl l<vl l':=by
 have a:=(vl_bd h).2
 have b:=(vl_bd h').1
 have:(10:Int) ^ (l.length+1)<=10 ^ l'.length:=by
  have:=Nat.pow_le_pow_right (n:=10) (by decide) g
  exact_mod_cast this
 rw [Int.pow_succ] at this
 omega
theorem vl_head {a b:Int} {l l':List Int} (h:D10 (a ::l)) (h':D10 (b ::l')) (e:l.length=l'.length) (g:a<b):vl (a ::l)<vl (b ::l'):=by
 have x:=(vl_bd h.tl).2
 have y:=(vl_bd h'.tl).1
 have p:=p10 l.length
 rw [<- e] at y
 simp only [vl]
 rw [<- e]
 have m:=Int.mul_le_mul_of_nonneg_right (show a+1+1<=b+1 by omega) (Int.le_of_lt p)
 rw [Int.add_mul (a+1) 1,Int.one_mul] at m
 omega
theorem vl_app {l l':List Int} (e:l.length=l'.length):∀ p:List Int,(vl (p ++ l)<vl (p ++ l') ↔ vl l<vl l')
 | []=>Iff.rfl
 | a ::p=>by
  have:=vl_app e p
  simp only [List.cons_append,vl,List.length_append,e]
  omega
theorem vl_inj:∀ {l l':List Int},D10 l->D10 l'->vl l=vl l'->l=l'
 | [],[],_,_,_=>rfl
 | [],b ::l',h,h',e=>by have:=vl_len h h' (by simp);omega
 | a ::l,[],h,h',e=>by have:=vl_len h' h (by simp);omega
 | a ::l,b ::l',h,h',e=>by
  have el:l.length=l'.length:=by
   rcases Nat.lt_trichotomy l.length l'.length with c | c | c
   ·have:=vl_len h h' (by simpa using c);omega
   ·exact c
   ·have:=vl_len h' h (by simpa using c);omega
  have ab:a=b:=by
   rcases Int.lt_trichotomy a b with c | c | c
   ·have:=vl_head h h' el c;omega
   ·exact c
   ·have:=vl_head h' h el.symm c;omega
  subst ab
  simp only [vl,el] at e
  rw [vl_inj h.tl h'.tl (by omega)]
theorem ref28_ahead_run {a b:List Int} {Q:Bool->Prop} (ha:D10 a) (hb:D10 b) (H:Q (decide (vl a<vl b))):(ref28_ahead.f a b).run Q:=by
 unfold ref28_ahead.f
 refine W.run_if (fun c=>?_) fun c=>?_
 ·show Q _
  rcases Nat.lt_or_ge a.length b.length with g | g
  ·have:=vl_len ha hb g
   rwa [decide_eq_true (by omega),<- decide_eq_true this]
  ·have:=vl_len hb ha (by omega)
   rwa [decide_eq_false (by omega),<- decide_eq_false (show ¬ vl a<vl b by omega)]
 ·have e:a.length=b.length:=by omega
  refine W.loop_c (fun p=>∃ i:Nat,p=i/\i<=a.length/\a.take i=b.take i) (fun p=>a.length - p.toNat) ⟨0,rfl,Nat.zero_le _,by simp⟩ ?_
  rintro _ P ⟨i,rfl,hi,he⟩ hgo hbrk hout
  unfold ref28_ahead.l1
  simp only [gi_gd]
  refine W.run_if (fun c=>W.req_i (by omega) (W.req_i (by omega) ?_)) fun c=>hbrk _ ?_
  ·have i1:i<a.length:=by omega
   have i2:i<b.length:=by omega
   refine W.run_if (fun c2=>W.req_i (by omega) (W.req_i (by omega) (hout _ ?_))) fun c2=>hgo _ ⟨i+1,by simp,by omega,?_⟩ (by simp;omega)
   ·show Q _
    have sa:a=a.take i ++ a[i] ::a.drop (i+1):=by rw [<- List.drop_eq_getElem_cons i1,List.take_append_drop]
    have sb:b=a.take i ++ b[i] ::b.drop (i+1):=by rw [<- List.drop_eq_getElem_cons i2,he,List.take_append_drop]
    have da:D10 (a[i] ::a.drop (i+1)):=fun x hx=>ha x (by rw [sa];exact List.mem_append_right _ hx)
    have db:D10 (b[i] ::b.drop (i+1)):=fun x hx=>hb x (by rw [sb];exact List.mem_append_right _ hx)
    have el:(a.drop (i+1)).length=(b.drop (i+1)).length:=by simp;omega
    have key:vl a<vl b ↔ vl (a[i] ::a.drop (i+1))<vl (b[i] ::b.drop (i+1)):=by
     have:=vl_app (l:=a[i] ::a.drop (i+1)) (l':=b[i] ::b.drop (i+1)) (by simp only [List.length_cons,el]) (a.take i)
     rwa [<- sa,<- sb] at this
    rw [gd_lt i1,gd_lt i2] at c2 |-
    rcases Int.lt_trichotomy a[i] b[i] with g | g | g
    ·have:=key.2 (vl_head da db el g)
     rwa [decide_eq_true g,<- decide_eq_true this]
    ·exact absurd g c2
    ·have:=vl_head db da el.symm g
     rwa [decide_eq_false (by omega),<- decide_eq_false (show ¬ vl a<vl b from fun h=>by have:=key.1 h;omega)]
   ·rw [gd_lt i1,gd_lt i2] at c2
    rw [List.take_add_one,List.take_add_one,he,List.getElem?_eq_getElem i1,List.getElem?_eq_getElem i2]
    simp only [Decidable.not_not] at c2
    rw [c2]
  ·obtain rfl:i=a.length:=by omega
   unfold ref28_ahead.j1
   show Q _
   rw [List.take_length,List.take_of_length_le (by omega)] at he
   subst he
   rwa [decide_eq_false (by omega)] at H
def Tst (m:api_Incidence) (s:List Int):Prop:=s≠[]/\∀ t,t<s.length->Od (pick m s) t
theorem pick_len {m:api_Incidence} {s:List Int} :(pick m s).length=s.length:=by unfold pick;rw [List.length_map]
theorem pick_rws {m:api_Incidence} {s:List Int} {C:Nat} (hv:IncOk m) (hC:m.Cols=C) (h:Se m.Rows s):Rws (pick m s) C:=fun r hr=>by
 rw [pick_len] at hr
 have:=h.lt _ (gd_mem hr)
 have hl:=hv.len
 rw [pick_gd hr,gi_gdi (show gd s r=((gd s r).toNat:Nat) by omega)]
 have:=hv.asc (gd s r).toNat (by omega)
 rwa [hC] at this
def dec10 (k:A10_bool):List Int:=((List.range 10).map fun (i:Nat)=>(i:Int)).filter fun i=>k.at_ i
theorem at_put {k:A10_bool} {i j:Int} {v:Bool} (hi:0<=i/\i<10) (hj:0<=j/\j<10):(k.put i v).at_ j=if j=i then v else k.at_ j:=by
 unfold A10_bool.at_ A10_bool.put
 rcases (by omega:j=0\/j=1\/j=2\/j=3\/j=4\/j=5\/j=6\/j=7\/j=8\/j=9) with rfl | rfl | rfl | rfl | rfl | rfl | rfl | rfl | rfl | rfl <;> simp [eq_comm]
theorem fault_key_run {l:List Int} {Q:A10_bool->Prop} (h:Se 10 l) (H:∀ k,dec10 k=l->Q k):(fault_key.f l).run Q:=by
 unfold fault_key.f
 refine W.loop_c (fun s:A10_bool×Int=>∃ t:Nat,s.2=t/\t<=l.length/\∀ j:Int,0<=j->j<10->(s.1.at_ j=true ↔ j ∈ l.take t)) (fun s=>l.length - s.2.toNat) ⟨0,rfl,Nat.zero_le _,fun j h0 h1=>?_⟩ ?_
 ·simp only [List.take_zero,List.not_mem_nil,iff_false,Bool.not_eq_true]
  unfold A10_bool.at_
  rcases (by omega:j=0\/j=1\/j=2\/j=3\/j=4\/j=5\/j=6\/j=7\/j=8\/j=9) with rfl | rfl | rfl | rfl | rfl | rfl | rfl | rfl | rfl | rfl <;> rfl
 rintro ⟨k,_⟩ P ⟨t,rfl,ht,hg⟩ hgo hbrk hout
 simp only at hg hgo hbrk |-
 unfold fault_key.l1
 simp only [gi_gd]
 refine W.run_if (fun c=>?_) fun c=>hbrk _ ?_
 ·have m:=h.lt _ (gd_mem (show t<l.length by omega))
  refine W.req_i (by omega) (W.req_i m (hgo _ ⟨t+1,by simp,by omega,fun j h0 h1=>?_⟩ (by simp;omega)))
  rw [at_put m ⟨h0,h1⟩,List.take_add_one,List.getElem?_eq_getElem (by omega),List.mem_append,<- hg j h0 h1,gd_lt (by omega)]
  by_cases e:j=l[t]
  ·rw [if_pos e];simp [e]
  ·rw [if_neg e];simp [e]
 ·obtain rfl:t=l.length:=by omega
  unfold fault_key.j1
  refine H k ?_
  have s:Se 10 (dec10 k):=(Se.all 10).sub (List.filter_sublist)
  refine s.ext h fun x=>?_
  rw [List.take_length] at hg
  unfold dec10
  rw [List.mem_filter]
  constructor
  ·rintro ⟨a,b⟩
   have:=(Se.all 10).lt x a
   exact (hg x this.1 this.2).1 b
  ·intro hx
   have:=h.lt x hx
   exact ⟨List.mem_map.2 ⟨x.toNat,List.mem_range.2 (by omega),by omega⟩,(hg x this.1 this.2).2 hx⟩
def nb:List Bool->Nat
 | []=>0
 | b ::l=>(if b=true then 1 else 0)+2*nb l
theorem nb_lt:∀ l:List Bool,nb l<2 ^ l.length
 | []=>by simp [nb]
 | b ::l=>by
  have:=nb_lt l
  simp only [nb,List.length_cons,Nat.pow_succ]
  split <;> omega
theorem nb_inj:∀ {l l':List Bool},l.length=l'.length->nb l=nb l'->l=l'
 | [],[],_,_=>rfl
 | [],_ ::_,h,_=>by simp at h
 | _ ::_,[],h,_=>by simp at h
 | a ::l,b ::l',h,e=>by
  simp only [nb] at e
  have:nb l=nb l'/\a=b:=by cases a <;> cases b <;> simp at e |- <;> omega
  rw [nb_inj (by simpa using h) this.1,this.2]
structure AskOk (m:api_Incidence) (l:List (A10_bool×Bool)):Prop where
 nd:(l.map (·.1)).Nodup
 ok:∀ k v,alook l k=some v->(v=true ↔ Tst m (dec10 k))
theorem AskOk.nil {m:api_Incidence} :AskOk m []:=⟨List.Pairwise.nil,fun _ _ h=>by cases h⟩
theorem AskOk.len {m:api_Incidence} {l:List (A10_bool×Bool)} (h:AskOk m l):l.length<=1024:=by
 have n:((l.map (·.1)).map fun k=>nb k.bits).Nodup:=nodup_map h.nd fun a b ha hb e=>A10_bool.bits_inj a b (nb_inj (show a.bits.length=b.bits.length from rfl) e)
 have:=n.length_le_of_subset (l₂:=List.range 1024) fun x hx=>by
  obtain ⟨k,hk,rfl⟩:=List.mem_map.1 hx
  have:=nb_lt k.bits
  rw [show k.bits.length=10 from rfl] at this
  exact List.mem_range.2 (by omega)
 simpa using this
theorem AskOk.set {m:api_Incidence} {l:List (A10_bool×Bool)} (h:AskOk m l) {k:A10_bool} {v:Bool} (hv:v=true ↔ Tst m (dec10 k)):AskOk m (aset l k v):=by
 constructor
 ·rw [aset_keys]
  split
  ·exact h.nd
  ·rename_i g
   exact List.nodup_append.2 ⟨h.nd,by simp,fun a ha b hb e=>g (by rw [<- List.mem_singleton.1 hb,<- e];exact ha)⟩
 ·intro k' v' h'
  rw [alook_aset] at h'
  split at h'
  ·rename_i e
   rw [e,<- Option.some.inj h'];exact hv
  ·exact h.ok k' v' h'
theorem fil_all {n:Nat} {p:Nat->Bool} :((List.range n).filter p).length=n ↔ ∀ t,t<n->p t=true:=by
 constructor
 ·intro h t ht
  have:=fil_eq (p:=p) (q:=fun _=>true) (fun _ _=>rfl) (l:=List.range n) (by rw [h];exact Nat.le_trans (List.length_filter_le ..) (by simp)) t (List.mem_range.2 ht) rfl
  exact this
 ·intro h
  rw [List.filter_eq_self.2 fun t ht=>h t (List.mem_range.1 ht),List.length_range]
theorem fault_isTest_run {d:api_Diag} {l:List (A10_bool×Bool)} {s:List Int} {Q:Bool×List (A10_bool×Bool)->Prop} (hv:IncOk d.M) (hr:d.M.Rows<=10) (ha:AskOk d.M l) (hs:Se d.M.Rows s) (H:∀ b l',(b=true ↔ Tst d.M s)->AskOk d.M l'->Q (b,l')):(fault_tester_isTest.f ⟨d,l⟩ s).run Q:=by
 classical
 have c0:=hv.c0
 have c1:=hv.c1
 have r0:=hv.r0
 obtain ⟨C,hC⟩:∃ C:Nat,d.M.Cols=C:=⟨d.M.Cols.toNat,by omega⟩
 have s10:Se 10 s:=⟨hs.so,fun x hx=>by have:=hs.lt x hx;omega⟩
 have sl:s.length<=10:=s10.len (N:=10)
 unfold fault_tester_isTest.f
 refine W.bd (fault_key_run s10 fun k hk=>W.run_if (fun c=>?_) fun c=>?_)
 ·obtain ⟨v,hv2⟩:=Option.isSome_iff_exists.1 c
  have:=ha.ok k v hv2
  rw [hk] at this
  simp only [hv2]
  exact H v l this ha
 ·refine W.bd (fault_over_run hC (by omega) (by omega) (fun i hi=>?_) (pick_rws hv hC hs) ?_)
  ·have:=hs.lt i hi
   have:=hv.len
   show 0<=i/\i<(d.M.E.length:Int)
   omega
  ·have last:∀ b:Bool,(b=true ↔ Tst d.M s)->(fault_tester_isTest.j1 ⟨d,l⟩ k b).run Q:=fun b hb=>by
    unfold fault_tester_isTest.j1
    have:=ha.len
    exact W.req_i ⟨by omega,by simp only;omega⟩ (H b _ hb (ha.set (by rw [hk];exact hb)))
   refine W.run_if (fun c2=>last _ ?_) fun c2=>last _ ?_
   ·unfold overV Tst
    rw [List.length_map,pick_len,decide_eq_true_iff]
    constructor
    ·intro e
     refine ⟨fun g=>by rw [g] at c2;simp at c2,fun t ht=>?_⟩
     exact of_decide_eq_true (p:=Od (pick d.M s) t) ((fil_all (p:=fun t=>decide (Od (pick d.M s) t))).1 (Int.ofNat_inj.1 e) t ht)
    ·rintro ⟨_,g⟩
     exact congrArg Int.ofNat (fil_all.2 fun t ht=>decide_eq_true (g t ht))
   ·refine ⟨fun g=>(by cases g),fun g=>absurd (List.length_eq_zero_iff.1 (by omega)) g.1⟩
end Go.Proofs.Ytbjnmmgnonldnaa.E
