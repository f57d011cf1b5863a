/- Joined. -/
import Derived.Test.YtbjnmmgnonldnaaKF4
set_option linter.unusedVariables false
set_option linter.unusedSimpArgs false
namespace Go.Proofs.Ytbjnmmgnonldnaa.E
open Go Go.RowKit
section
variable {E:Nat->List Nat} {n c:Nat} {row col row' col':Nat->Option Nat}
open Classical in
theorem Mch.ztight (h:Mch E n row col) (hE:∀ r k,r<n->k ∈ E r->k<c):Tight (fun i k=>k ∈ E i) (List.range n) row (fun i=>decide (Zr E n row col i)) ((List.range c).filter fun k=>decide (Zc E n row col k)):=by
 refine ⟨⟨nodup_fil List.nodup_range,fun i k hi hr hk=>?_⟩,fun i hi hn=>?_,fun k hk=>?_⟩
 ·exact List.mem_filter.2 ⟨List.mem_range.2 (hE i k (List.mem_range.1 hi) hk),decide_eq_true ⟨i,of_decide_eq_true hr,hk⟩⟩
 ·exact decide_eq_true ⟨i,List.mem_range.1 hi,hn,.refl⟩
 ·obtain ⟨i,h1,h2⟩:=h.zc (of_decide_eq_true (List.mem_filter.1 hk).2)
  exact ⟨i,List.mem_range.2 (h.zlt h2),decide_eq_true h2,(h.prs.rc i k).2 h1⟩
theorem zr_sub (h:Mch E n row col) (h':Mch E n row' col') (hE:∀ r k,r<n->k ∈ E r->k<c) {i:Nat} (hi:Zr E n row' col' i):Zr E n row col i:=by
 classical
 have hm:=(h.tight hE).1
 have hm':=(h'.tight hE).1
 have t:=h.ztight hE
 have t':=h'.ztight hE
 have e:=Tight.same List.nodup_range hm t hm' t'
 have s:=t.sz List.nodup_range hm
 have t2:=t.bar.tight List.nodup_range hm' (by omega)
 have cl:=t2.clo hm'
 obtain ⟨j,h1,h2,h3⟩:=hi
 have:∀ i,Rfr E col' j i->i<n/\Zr E n row col i:=fun i h3=>by
  induction h3 with
  | refl=>exact ⟨h1,of_decide_eq_true (cl.un j (List.mem_range.2 h1) h2)⟩
  | step _ a b ih=>
   have hr:=(h'.prs.rc _ _).2 b
   have lt:=h'.lt hr
   exact ⟨lt,of_decide_eq_true (cl.st _ _ _ (List.mem_range.2 ih.1) (List.mem_range.2 lt) (decide_eq_true ih.2) a hr)⟩
 exact (this i h3).2
theorem zr_same (h:Mch E n row col) (h':Mch E n row' col') (hE:∀ r k,r<n->k ∈ E r->k<c) {i:Nat} :Zr E n row col i ↔ Zr E n row' col' i:=⟨fun g=>zr_sub h' h hE g,fun g=>zr_sub h h' hE g⟩
end
def Ef (L:List (List Int)) (r:Nat):List Nat:=(gd L r).map Int.toNat
def Od (L:List (List Int)) (i:Nat):Prop:=∃ row col,Mch (Ef L) L.length row col/\Zr (Ef L) L.length row col i
def Oc (L:List (List Int)) (k:Nat):Prop:=∃ i,Od L i/\k ∈ Ef L i
def Rws (L:List (List Int)) (c:Nat):Prop:=∀ r,r<L.length->Asc (gd L r) c
section
variable {L:List (List Int)} {c:Nat}
theorem gd_none {α:Type} [Inhabited α] {l:List α} {r:Nat} (h:l.length<=r):gd l r=default:=by
 unfold gd
 rw [List.getD_eq_getElem?_getD,List.getElem?_eq_none h]
 rfl
theorem Rws.lt (h:Rws L c) {r k:Nat} (hk:k ∈ Ef L r):k<c/\r<L.length:=by
 obtain ⟨z,hz,rfl⟩:=List.mem_map.1 hk
 rcases Nat.lt_or_ge r L.length with g | g
 ·obtain ⟨t,ht,rfl⟩:=List.mem_iff_getElem.1 hz
  have:=h r g t ht
  rw [gd_lt ht] at this
  exact ⟨by omega,g⟩
 ·rw [gd_none g] at hz;cases hz
theorem Od.iff (h:Rws L c) {row col:Nat->Option Nat} (hM:Mch (Ef L) L.length row col) {i:Nat} :Zr (Ef L) L.length row col i ↔ Od L i:=
 ⟨fun g=>⟨row,col,hM,g⟩,fun ⟨r2,c2,h1,h2⟩=>(zr_same (c:=c) hM h1 fun r k _ hk=>(h.lt hk).1).2 h2⟩
theorem Oc.iff (h:Rws L c) {row col:Nat->Option Nat} (hM:Mch (Ef L) L.length row col) {k:Nat} :Zc (Ef L) L.length row col k ↔ Oc L k:=
 ⟨fun ⟨i,g1,g2⟩=>⟨i,(Od.iff h hM).1 g1,g2⟩,fun ⟨i,g1,g2⟩=>⟨i,(Od.iff h hM).2 g1,g2⟩⟩
end
def pick (m:api_Incidence) (eqs:List Int):List (List Int):=eqs.map fun i=>gi m.E i
open Classical in
noncomputable def overV (L:List (List Int)) (c:Nat) (eqs:List Int):List Int×Int:=(((List.range L.length).filter fun t=>decide (Od L t)).map (gd eqs),((((List.range c).filter fun k=>decide (Oc L k)).length:Nat):Int))
theorem fil_snoc (p:Nat->Bool) (n:Nat):(List.range (n+1)).filter p=if p n=true then (List.range n).filter p ++ [n] else (List.range n).filter p:=by
 rw [List.range_succ,List.filter_append]
 cases h:p n <;> simp [h]
theorem pick_gd {m:api_Incidence} {eqs:List Int} {t:Nat} (ht:t<eqs.length):gd (pick m eqs) t=gi m.E (gd eqs t):=by
 unfold pick
 rw [gd_lt (by simpa using ht),List.getElem_map,gd_lt ht]
theorem fault_over_run {m:api_Incidence} {eqs:List Int} {C:Nat} {Q:List Int×Int->Prop} (hC:m.Cols=C) (hc:C<=64) (he:eqs.length<=64) (hin:∀ i ∈ eqs,0<=i/\i<m.E.length) (hr:Rws (pick m eqs) C) (H:Q (overV (pick m eqs) C eqs)):(fault_over.f m eqs).run Q:=by
 classical
 unfold fault_over.f
 rw [hC]
 refine W.loop_c (fun s:Int×Int×List (List Int)×Int=>∃ t:Nat,s.1=eqs.length/\s.2.1=C/\s.2.2.2=t/\t<=eqs.length/\s.2.2.1=(eqs.take t).map fun i=>gi m.E i) (fun s=>eqs.length - s.2.2.2.toNat) ⟨0,rfl,rfl,rfl,Nat.zero_le _,rfl⟩ ?_
 rintro ⟨_,_,l,_⟩ P ⟨t,rfl,rfl,rfl,ht,hl⟩ hgo hbrk hout
 simp only at hl hgo hbrk |-
 subst hl
 unfold fault_over.l3
 simp only [gi_gd]
 refine W.run_if (fun c=>W.req_i (by omega) ?_) fun c=>hbrk _ ?_
 ·have:=hin _ (gd_mem (show t<eqs.length by omega))
  refine W.req_i (by omega) (W.req_i (by rw [List.length_map,List.length_take];omega) (hgo _ ⟨t+1,rfl,rfl,by simp,by omega,?_⟩ (by simp;omega)))
  show _ ++ _=_
  rw [List.take_add_one,List.getElem?_eq_getElem (by omega),List.map_append,gd_lt (by omega)]
  rfl
 obtain rfl:t=eqs.length:=by omega
 clear hgo hbrk hout
 rw [List.take_length]
 have pl:(pick m eqs).length=eqs.length:=by unfold pick;rw [List.length_map]
 unfold fault_over.j1
 have ok:IncOk (⟨eqs.length,C,pick m eqs⟩:api_Incidence):=⟨by simp,by simp only;omega,by simp,by simp only;omega,by simp only;omega,fun r hr'=>hr r hr'⟩
 have el:El (⟨eqs.length,C,pick m eqs⟩:api_Incidence)=Ef (pick m eqs):=rfl
 show (W.bind (match_Parts.f (⟨eqs.length,C,pick m eqs⟩:api_Incidence)) _).run Q
 refine W.bd (parts_run ok fun row col rows cols hP=>?_)
 simp only [Int.toNat_natCast] at hP
 obtain ⟨h1,h2,h3,h4,h5⟩:=hP
 rw [el,<- pl] at h3 h4
 rw [el,<- pl] at h5
 have rz:∀ i,i<eqs.length->(gd rows i=0 ↔ Od (pick m eqs) i):=fun i hi=>(h4 i (by omega)).trans (Od.iff hr h3)
 have cz:∀ k,k<C->(gd cols k=0 ↔ Oc (pick m eqs) k):=fun k hk=>(h5 k hk).trans (Oc.iff hr h3)
 refine W.loop_c (fun s:List Int×Int=>∃ t:Nat,s.2=t/\t<=eqs.length/\s.1=((List.range t).filter fun t=>decide (Od (pick m eqs) t)).map (gd eqs)) (fun s=>eqs.length - s.2.toNat) ⟨0,rfl,Nat.zero_le _,rfl⟩ ?_
 rintro ⟨o,_⟩ P ⟨t,rfl,ht,rfl⟩ hgo hbrk hout
 simp only at hgo hbrk |-
 unfold fault_over.l2
 simp only [gi_gd]
 have ol:((List.range t).filter fun t=>decide (Od (pick m eqs) t)).length<=t:=by
  have:=List.length_filter_le (fun t=>decide (Od (pick m eqs) t)) (List.range t)
  simpa using this
 refine W.run_if (fun c=>W.req_i (by omega) (W.run_if (fun c2=>W.req_i (by omega) (W.req_i (by rw [List.length_map];omega) (hgo _ ⟨t+1,by simp,by omega,?_⟩ (by simp;omega)))) fun c2=>hgo _ ⟨t+1,by simp,by omega,?_⟩ (by simp;omega))) fun c=>hbrk _ ?_
 ·show _ ++ _=_
  rw [fil_snoc,if_pos (decide_eq_true ((rz t (by omega)).1 c2)),List.map_append]
  rfl
 ·show _=_
  rw [fil_snoc,if_neg (by simpa using fun h=>c2 ((rz t (by omega)).2 h))]
 obtain rfl:t=eqs.length:=by omega
 clear hgo hbrk hout ol
 unfold fault_over.j2
 refine W.loop_c (fun s:Int×Int=>∃ t:Nat,s.2=t/\t<=C/\s.1=((((List.range t).filter fun k=>decide (Oc (pick m eqs) k)).length:Nat):Int)) (fun s=>C - s.2.toNat) ⟨0,rfl,Nat.zero_le _,rfl⟩ ?_
 rintro ⟨o,_⟩ P ⟨t,rfl,ht,rfl⟩ hgo hbrk hout
 simp only at hgo hbrk |-
 unfold fault_over.l1
 simp only [gi_gd]
 have ol:((List.range t).filter fun k=>decide (Oc (pick m eqs) k)).length<=t:=by
  have:=List.length_filter_le (fun k=>decide (Oc (pick m eqs) k)) (List.range t)
  simpa using this
 refine W.run_if (fun c=>W.req_i (by omega) (W.run_if (fun c2=>W.req_i (by show _/\_;omega) (hgo _ ⟨t+1,by simp,by omega,?_⟩ (by simp;omega))) fun c2=>hgo _ ⟨t+1,by simp,by omega,?_⟩ (by simp;omega))) fun c=>hbrk _ ?_
 ·show _=_
  rw [fil_snoc,if_pos (decide_eq_true ((cz t (by omega)).1 c2)),List.length_append]
  simp
 ·show _=_
  rw [fil_snoc,if_neg (by simpa using fun h=>c2 ((cz t (by omega)).2 h))]
 obtain rfl:t=C:=by omega
 unfold fault_over.j3
 unfold overV at H
 rw [pl] at H
 exact H
theorem fault_all_run {n:Nat} {Q:List Int->Prop} (hn:n<=64) (H:Q ((List.range n).map fun (i:Nat)=>(i:Int))):(fault_all.f (n:Int)).run Q:=by
 unfold fault_all.f
 rw [Int.toNat_natCast]
 refine W.req_i (by omega) ?_
 refine W.loop_c (fun s:List Int×Int=>∃ i:Nat,s.2=i/\i<=n/\s.1.length=n/\∀ k,k<i->gd s.1 k=k) (fun s=>n - s.2.toNat) ⟨0,rfl,Nat.zero_le _,by simp,fun k hk=>by omega⟩ ?_
 rintro ⟨o,_⟩ P ⟨i,rfl,hi,ho,hg⟩ hgo hbrk hout
 simp only at ho hg hgo hbrk |-
 unfold fault_all.l1
 rw [Int.toNat_natCast,List.length_replicate,Int.toNat_natCast]
 refine W.run_if (fun c=>W.req_i (by omega) (hgo _ ⟨i+1,by simp,by omega,by simpa using ho,fun k hk=>?_⟩ (by simp;omega))) fun c=>hbrk _ ?_
 ·show gd (o.set i _) k=_
  rw [gd_set]
  by_cases e:i=k
  ·rw [if_pos ⟨e,by omega⟩,e]
  ·rw [if_neg fun g=>e g.1];exact hg k (by omega)
 ·obtain rfl:i=n:=by omega
  unfold fault_all.j1
  show Q o
  rwa [show o=(List.range i).map fun (i:Nat)=>(i:Int) from list_gd_ext (by simpa using ho) fun k hk=>by rw [hg k (by omega),gd_lt (by simp;omega),List.getElem_map,List.getElem_range]]
end Go.Proofs.Ytbjnmmgnonldnaa.E
namespace Go.Proofs.Ytbjnmmgnonldnaa.E
open Go Go.RowKit
section
variable {V:Type}
theorem alook_aset {K:Type} [DecidableEq K]:∀ (l:List (K×V)) (k:K) (v:V) (k':K),alook (aset l k v) k'=if k'=k then some v else alook l k'
 | [],k,v,k'=>by simp only [aset,alook]
 | p ::l,k,v,k'=>by
  unfold aset
  by_cases c:k=p.1
  ·rw [if_pos c]
   unfold alook
   by_cases d:k'=k
   ·rw [if_pos d,if_pos d]
   ·rw [if_neg d,if_neg d,if_neg (by rwa [<- c])]
  ·rw [if_neg c]
   unfold alook
   by_cases d:k'=p.1
   ·rw [if_pos d,if_pos d,if_neg (fun e=>c (e.symm.trans d))]
   ·rw [if_neg d,if_neg d,alook_aset l k v k']
theorem aset_keys {K:Type} [DecidableEq K]:∀ (l:List (K×V)) (k:K) (v:V),(aset l k v).map (·.1)=if k ∈ l.map (·.1) then l.map (·.1) else l.map (·.1) ++ [k]
 | [],k,v=>by simp [aset]
 | p ::l,k,v=>by
  unfold aset
  by_cases c:k=p.1
  ·rw [if_pos c];simp [c]
  ·rw [if_neg c,List.map_cons,aset_keys l k v,List.map_cons]
   by_cases d:k ∈ l.map (·.1)
   ·rw [if_pos d,if_pos (List.mem_cons_of_mem _ d)]
   ·rw [if_neg d,if_neg (fun g=>(List.mem_cons.1 g).elim c d)];rfl
structure MapOk (l:List (Int×V)) (c:Nat):Prop where
 nd:(l.map (·.1)).Nodup
 lt:∀ k:Int,k ∈ l.map (·.1)->0<=k/\k<c
theorem MapOk.nil {c:Nat} :MapOk ([]:List (Int×V)) c:=⟨List.Pairwise.nil,fun _ h=>by cases h⟩
theorem MapOk.set {l:List (Int×V)} {c:Nat} (h:MapOk l c) {k:Nat} (hk:k<c) (v:V):MapOk (aset l (k:Int) v) c:=by
 constructor
 ·rw [aset_keys]
  split
  ·exact h.nd
  ·rename_i g
   exact List.nodup_append.2 ⟨h.nd,by simp,fun a ha b hb e=>g (by rw [<- List.mem_singleton.1 hb,<- e];exact ha)⟩
 ·rw [aset_keys]
  split
  ·exact h.lt
  ·intro x hx
   rcases List.mem_append.1 hx with hx | hx
   ·exact h.lt x hx
   ·rw [List.mem_singleton.1 hx];omega
theorem MapOk.len {l:List (Int×V)} {c:Nat} (h:MapOk l c):l.length<=c:=by
 have n:((l.map (·.1)).map Int.toNat).Nodup:=nodup_map h.nd fun a b ha hb e=>by
  have:=h.lt a ha
  have:=h.lt b hb
  omega
 have:=n.length_le_of_subset (l₂:=List.range c) fun x hx=>by
  obtain ⟨k,hk,rfl⟩:=List.mem_map.1 hx
  have:=h.lt k hk
  exact List.mem_range.2 (by omega)
 simpa using this
end
def ca (l:List (Int×Int)) (k:Nat):Option Nat:=(alook l (k:Int)).map Int.toNat
def sna (l:List (Int×Bool)) (k:Nat):Bool:=(alook l (k:Int)).getD false
def sns (l:List (Int×Bool)) (k:Nat):Prop:=sna l k=true
def Val0 (l:List (Int×Int)):Prop:=∀ k v,alook l k=some v->0<=v
theorem ca_set {l:List (Int×Int)} {k i:Nat} :ca (aset l (k:Int) (i:Int))=up (ca l) k i:=by
 funext x
 unfold ca up
 rw [alook_aset]
 by_cases e:x=k
 ·rw [if_pos (by omega),if_pos e];simp
 ·rw [if_neg (by omega),if_neg e]
theorem Val0.set {l:List (Int×Int)} (h:Val0 l) {k i:Nat} :Val0 (aset l (k:Int) (i:Int)):=fun k' v hv=>by
 rw [alook_aset] at hv
 split at hv
 ·have:=Option.some.inj hv;omega
 ·exact h k' v hv
theorem sna_set {l:List (Int×Bool)} {k x:Nat} :sna (aset l (k:Int) true) x=(sna l x || decide (x=k)):=by
 unfold sna
 rw [alook_aset]
 by_cases e:x=k
 ·rw [if_pos (by omega),decide_eq_true e];simp
 ·rw [if_neg (by omega),decide_eq_false e];simp
theorem cnt_lt {n k:Nat} {p q:Nat->Bool} (hk:k<n) (hp:p k=true) (hq:q k=false) (h:∀ j,q j=true->p j=true):((List.range n).filter q).length<((List.range n).filter p).length:=by
 have:=fil_le h (List.range n)
 rcases Nat.lt_or_ge ((List.range n).filter q).length ((List.range n).filter p).length with c | c
 ·exact c
 ·have:=fil_eq h c k (List.mem_range.2 hk) hp
  rw [hq] at this;cases this
def unsn (c:Nat) (l:List (Int×Bool)):Nat:=((List.range c).filter fun k=>!sna l k).length
abbrev GivA:=List (List Int)×List (Int×Int)×Int×List (Int×Bool)
def GivS (L:List (List Int)) (C:Nat) (a:GivA) (Q:Bool×List (Int×Int)×List (Int×Bool)->Prop):Prop:=
 ∃ (i:Nat) (row:Nat->Option Nat),a.1=L/\a.2.2.1=(i:Int)/\i<L.length/\MapOk a.2.1 C/\MapOk a.2.2.2 C/\Val0 a.2.1/\Prs (Ef L) row (ca a.2.1)/\(∀ k,row i=some k->sns a.2.2.2 k)/\
  (∀ s',MapOk s' C->Lost (Ef L) (ca a.2.1) (sns a.2.2.2) (sns s')->(∀ k,k ∈ Ef L i->sns s' k)->Q (false,a.2.1,s'))/\
  (∀ s' of' row',MapOk s' C->MapOk of' C->Val0 of'->Won (Ef L) i (sns a.2.2.2) row (ca a.2.1) row' (ca of')->Q (true,of',s'))
theorem Ef.at_ {L:List (List Int)} {C:Nat} (h:Rws L C) {r t:Nat} (ht:t<(gd L r).length):∃ k:Nat,gd (gd L r) t=(k:Int)/\k<C/\k ∈ Ef L r/\gd (Ef L r) t=k:=by
 have hm:=gd_mem ht
 have hr:r<L.length:=by
  rcases Nat.lt_or_ge r L.length with g | g
  ·exact g
  ·rw [gd_none g] at ht;exact absurd ht (Nat.not_lt_zero _)
 have:=h r hr t ht
 refine ⟨(gd (gd L r) t).toNat,by omega,by omega,List.mem_map.2 ⟨_,hm,rfl⟩,?_⟩
 unfold Ef
 rw [gd_lt (by simpa using ht),List.getElem_map,gd_lt ht]
theorem gives_run {L:List (List Int)} {C:Nat} (hR:Rws L C) (hC:C<=64) {a:List (List Int)×List (Int×Int)×Int×List (Int×Bool)} {Q:Bool×List (Int×Int)×List (Int×Bool)->Prop} (hS:GivS L C a Q):(ref28_gives.f a.1 a.2.1 a.2.2.1 a.2.2.2).run Q:=by
 unfold ref28_gives.f
 refine W.fix_run (fun a=>unsn C a.2.2.2) (S:=GivS L C) ?_ _ Q hS
 clear hS
 rintro rec ⟨x0,of,x2,s0⟩ Q hrec ⟨i,row,hx0,hx2,hi,hof,hs0,hv,hp,hseen,H0,H1⟩
 simp only at hx0 hx2 hi hof hs0 hv hp hseen H0 H1 hrec |-
 obtain rfl:L=x0:=hx0.symm
 subst hx2
 unfold ref28_gives.b
 refine W.loop_c (fun s:List (Int×Bool)×List (Int×Int)×Int=>∃ t:Nat,s.2.1=of/\s.2.2=t/\t<=(gd L i).length/\MapOk s.1 C/\Lost (Ef L) (ca of) (sns s0) (sns s.1)/\∀ t',t'<t->sns s.1 (gd (Ef L i) t')) (fun s=>(gd L i).length - s.2.2.toNat) ⟨0,rfl,rfl,Nat.zero_le _,hs0,Lost.refl,fun t ht=>by omega⟩ ?_
 rintro ⟨s,_,_⟩ P ⟨t,rfl,rfl,ht,hbs,hL,hE⟩ hgo hbrk hout
 rename_i of
 simp only at hbs hL hE hgo hbrk |-
 unfold ref28_gives.l1
 simp only [gi_gd]
 refine W.req_i (by omega) (W.run_if (fun c=>W.req_i (by omega) (W.req_i (by omega) ?_)) fun c=>hbrk _ ?_)
 ·obtain ⟨k,hk,hkC,hkE,hkt⟩:=Ef.at_ hR (r:=i) (t:=t) (by omega)
  simp only [hk]
  have next:∀ s',MapOk s' C->Lost (Ef L) (ca of) (sns s0) (sns s')->(∀ x,sns s x->sns s' x)->sns s' k->P (.go (s',of,(t:Int)+1)):=fun s' h1 h2 h3 h4=>hgo _ ⟨t+1,rfl,by simp,by omega,h1,h2,fun t' ht'=>by
   by_cases e:t'=t
   ·rw [e,hkt];exact h4
   ·exact h3 _ (hE t' (by omega))⟩ (by simp;omega)
  unfold ref28_gives.j2
  refine W.run_if (fun c1=>next s hbs hL (fun _ h=>h) c1) fun c1=>?_
  have nk: ¬ sns s k:=c1
  have nk0: ¬ sns s0 k:=fun h=>nk (hL.up k h)
  have hb1:MapOk (aset s (k:Int) true) C:=hbs.set hkC _
  have k1:sns (aset s (k:Int) true) k:=by unfold sns;rw [sna_set];simp
  have up1:∀ x,sns s x->sns (aset s (k:Int) true) x:=fun x hx=>by unfold sns at hx |-;rw [sna_set,hx];rfl
  have eq1:∀ x,sns (aset s (k:Int) true) x ↔ sns s x\/x=k:=fun x=>by unfold sns;rw [sna_set];simp
  have hi2:∀ k,row i=some k->sns s k:=fun k hk=>hL.up k (hseen k hk)
  have l1:=hbs.len
  have l2:of.length<=C:=hof.len
  refine W.req_i (by omega) (W.run_if (fun c2=>?_) fun c2=>W.req_i (by omega) ?_)
  ·obtain ⟨v,hv2⟩:=Option.isSome_iff_exists.1 c2
   obtain ⟨j,rfl⟩:∃ j:Nat,v=(j:Int):=⟨v.toNat,by have:=hv _ _ hv2;omega⟩
   have hcj:ca of k=some j:=by unfold ca;rw [hv2];simp
   have hrj:row j=some k:=(hp.rc j k).2 hcj
   rw [hv2]
   refine W.bd (hrec _ _ ?_ ⟨j,row,rfl,rfl,(hR.lt (hp.inc j k hrj)).2,hof,hb1,hv,hp,fun x hx=>?_,fun s' hb' hl' he'=>?_,fun s' of' row' hb' ho' hv' hw'=>?_⟩)
   ·refine cnt_lt (k:=k) hkC ?_ ?_ fun x hx=>?_
    ·have:sna s0 k=false:=by simpa [sns] using nk0
     simp [this]
    ·have:sna (aset s (k:Int) true) k=true:=k1
     simp [this]
    ·have h2:sna (aset s (k:Int) true) x=false:=by simpa using hx
     cases e:sna s0 x with
     | false=>rfl
     | true=>
      have h3:sna (aset s (k:Int) true) x=true:=up1 x (hL.up x e)
      rw [h2] at h3;cases h3
   ·rw [hrj] at hx
    rw [<- Option.some.inj hx];exact k1
   ·have hl2:Lost (Ef L) (ca of) (fun x=>sns s x\/x=k) (sns s'):=⟨fun x hx=>hl'.up x ((eq1 x).2 hx),fun x hx h0=>hl'.st x hx fun g=>h0 ((eq1 x).1 g)⟩
    dsimp only
    rw [if_neg (by simp)]
    exact next s' hb' (hL.trans (hl2.add hcj he')) (fun x hx=>hl'.up x (up1 x hx)) (hl'.up k k1)
   ·dsimp only
    rw [if_pos rfl]
    have l3:=ho'.len
    refine W.req_i (by omega) (hout _ (H1 s' _ (up row' i k) hb' (ho'.set hkC _) hv'.set ?_))
    rw [ca_set]
    exact (Won.push hp hi2 hkE nk hcj (hw'.mono fun x hx=>(eq1 x).2 hx)).mono hL.up
  ·have hcn:ca of k=none:=by
    unfold ca
    cases e:alook of (k:Int) with
    | none=>rfl
    | some v=>rw [e] at c2;exact absurd rfl c2
   refine hout _ (H1 _ _ (up row i k) hb1 (hof.set hkC _) hv.set ?_)
   rw [ca_set]
   exact Won.free hp hseen hkE nk0 hcn
 ·obtain rfl:t=(gd L i).length:=by omega
  unfold ref28_gives.j1
  refine H0 s hbs hL fun x hx=>?_
  obtain ⟨t,ht,rfl⟩:=List.mem_iff_getElem.1 hx
  have:=hE t (by unfold Ef at ht;rwa [List.length_map] at ht)
  rwa [gd_lt ht] at this
theorem szM_succ {t:Nat} {row:Nat->Option Nat} :szM (List.range (t+1)) row=szM (List.range t) row+if (row t).isSome=true then 1 else 0:=by
 unfold szM
 rw [fil_snoc]
 split <;> simp
theorem pairs_run {L:List (List Int)} {C:Nat} {Q:Int->Prop} (hR:Rws L C) (hC:C<=64) (hl:L.length<=64) (H:∀ row col,Mch (Ef L) L.length row col->Q (szM (List.range L.length) row)):(ref28_pairs.f L).run Q:=by
 unfold ref28_pairs.f
 refine W.loop_c (fun s:List (Int×Int)×Int×Int=>∃ (t:Nat) (row:Nat->Option Nat),s.2.2=t/\t<=L.length/\MapOk s.1 C/\Val0 s.1/\Mch (Ef L) t row (ca s.1)/\s.2.1=(szM (List.range t) row:Nat)) (fun s=>L.length - s.2.2.toNat) ⟨0,fun _=>none,rfl,Nat.zero_le _,MapOk.nil,(fun k v h=>(by cases h):Val0 []),Mch.zero,rfl⟩ ?_
 rintro ⟨of,_,_⟩ P ⟨t,row,rfl,ht,hof,hv,hM,rfl⟩ hgo hbrk hout
 simp only at hof hv hM hgo hbrk |-
 unfold ref28_pairs.l1
 refine W.run_if (fun c=>?_) fun c=>hbrk _ ?_
 ·have e0:sns [] =fun _=>False:=funext fun k=>propext ⟨fun h=>(by cases h),fun h=>h.elim⟩
  have rt:row t=none:=hM.hi t (Nat.le_refl _)
  have sl:szM (List.range t) row<=t:=by
   have:szM (List.range t) row<=(List.range t).length:=List.length_filter_le _ _
   rwa [List.length_range] at this
  refine W.bd (gives_run hR hC (a:=(L,of,(t:Int),[])) ⟨t,row,rfl,rfl,by omega,hof,MapOk.nil,hv,hM.prs,fun k hk=>?_,fun s' hb' hl' he'=>?_,fun s' of' row' hb' ho' hv' hw'=>?_⟩)
  ·rw [rt] at hk;cases hk
  ·simp only at hl' |-
   rw [e0] at hl'
   rw [if_neg (by simp)]
   unfold ref28_pairs.j2
   refine hgo _ ⟨t+1,row,by simp,by omega,hof,hv,hM.lost hl' he',?_⟩ (by simp;omega)
   rw [szM_succ,rt];rfl
  ·simp only at hw' |-
   rw [e0] at hw'
   rw [if_pos trivial]
   unfold ref28_pairs.j2
   refine W.req_i (by show _/\_;omega) (hgo _ ⟨t+1,row',by simp,by omega,ho',hv',hM.won hw',?_⟩ (by simp;omega))
   obtain ⟨k1,n1,_⟩:=hw'.new
   rw [szM_succ,n1]
   have:szM (List.range t) row'=szM (List.range t) row:=by
    unfold szM
    congr 1
    exact List.filter_congr fun j hj=>hw'.old j (by have:=List.mem_range.1 hj;omega)
   rw [this];rfl
 ·obtain rfl:t=L.length:=by omega
  unfold ref28_pairs.j1
  exact H _ _ hM
theorem range_erase {n i:Nat} (hi:i<n):(List.range n).erase i=(List.range (n - 1)).map fun j=>if j<i then j else j+1:=by
 rw [List.erase_range]
 refine List.ext_getElem (by simp;omega) fun k h1 h2=>?_
 simp only [List.getElem_append,List.getElem_map,List.getElem_range,List.length_range]
 simp only [List.length_append,List.length_range,List.length_range',List.length_map] at h1 h2
 by_cases c:k<i
 ·rw [dif_pos (by omega),if_pos c]
 ·rw [dif_neg (by omega),if_neg c]
  simp only [List.getElem_range']
  omega
theorem szM_map {l:List Nat} {f:Nat->Nat} {m:Nat->Option Nat} :szM (l.map f) m=szM l fun j=>m (f j):=by
 unfold szM
 rw [List.filter_map,List.length_map];rfl
theorem less_iff {L:List (List Int)} {c i:Nat} (hR:Rws L c) (hi:i<L.length) {row col row' col':Nat->Option Nat} (hM:Mch (Ef L) L.length row col) (hM':Mch (Ef (L.eraseIdx i)) (L.length - 1) row' col'):szM (List.range (L.length - 1)) row'=szM (List.range L.length) row ↔ Od L i:=by
 have hE:∀ j,j<L.length - 1->Ef (L.eraseIdx i) j=Ef L (if j<i then j else j+1):=fun j hj=>by
  unfold Ef
  congr 1
  rw [gd_lt (by rw [List.length_eraseIdx];split <;> omega),List.getElem_eraseIdx]
  split
  ·rw [gd_lt]
  ·rw [gd_lt]
 let ψ:Nat->Nat:=fun r=>if r<i then r else r - 1
 let φ:Nat->Nat:=fun j=>if j<i then j else j+1
 have pf:∀ j,ψ (φ j)=j:=fun j=>by
  show (if (if j<i then j else j+1)<i then (if j<i then j else j+1) else (if j<i then j else j+1) - 1)=j
  by_cases c:j<i
  ·simp only [if_pos c]
  ·simp only [if_neg c]
   rw [if_neg (by omega)];omega
 obtain ⟨m1,R,S,t1⟩:=hM.tight fun r k _ hk=>(hR.lt hk).1
 obtain ⟨m2,R',S',t2⟩:=hM'.tight fun r k hr hk=>(hR.lt (by rw [hE r hr] at hk;exact hk)).1
 have er:=range_erase hi
 have mem:∀ r,r ∈ (List.range L.length).erase i->∃ j,j<L.length - 1/\φ j=r:=fun r hr=>by
  rw [er] at hr
  obtain ⟨j,hj,e⟩:=List.mem_map.1 hr
  exact ⟨j,List.mem_range.1 hj,e⟩
 have mem2:∀ j,j<L.length - 1->φ j ∈ (List.range L.length).erase i:=fun j hj=>by
  rw [er]
  exact List.mem_map.2 ⟨j,List.mem_range.2 hj,rfl⟩
 have m3:Mt (fun i k=>k ∈ Ef L i) ((List.range L.length).erase i) (fun r=>row' (ψ r)):=⟨fun r k hr hk=>by
   obtain ⟨j,hj,rfl⟩:=mem r hr
   have:=m2.inc j k (List.mem_range.2 hj) (by simpa only [pf] using hk)
   rw [hE j hj] at this
   exact this,fun r r2 k hr hr2 h1 h2=>by
   obtain ⟨j,hj,rfl⟩:=mem r hr
   obtain ⟨j2,hj2,rfl⟩:=mem r2 hr2
   have:=m2.inj j j2 k (List.mem_range.2 hj) (List.mem_range.2 hj2) (by simpa only [pf] using h1) (by simpa only [pf] using h2)
   rw [this]⟩
 have t3:Tight (fun i k=>k ∈ Ef L i) ((List.range L.length).erase i) (fun r=>row' (ψ r)) (fun r=>R' (ψ r)) S':=⟨⟨t2.bar.nd,fun r k hr h1 h2=>by
   obtain ⟨j,hj,rfl⟩:=mem r hr
   refine t2.bar.nb j k (List.mem_range.2 hj) (by simpa only [pf] using h1) ?_
   show k ∈ Ef (L.eraseIdx i) j
   rw [hE j hj]
   exact h2⟩,fun r hr h1=>by
   obtain ⟨j,hj,rfl⟩:=mem r hr
   simp only [pf] at h1 |-
   exact t2.un j (List.mem_range.2 hj) h1,fun k hk=>by
   obtain ⟨j,hj,h1,h2⟩:=t2.all k hk
   exact ⟨φ j,mem2 j (List.mem_range.1 hj),by simpa only [pf] using h1,by simpa only [pf] using h2⟩⟩
 have sz:szM ((List.range L.length).erase i) (fun r=>row' (ψ r))=szM (List.range (L.length - 1)) row':=by
  rw [er,szM_map]
  congr 1
  funext j
  exact congrArg row' (pf j)
 rw [<- sz]
 refine (out_iff List.nodup_range (List.mem_range.2 hi) m1 t1 (Z:=Zr (Ef L) L.length row col) ⟨fun j hj hn=>⟨j,List.mem_range.1 hj,hn,.refl⟩,fun a k j ha hj hz hk hc=>hz.step hk ((hM.prs.rc j k).1 hc)⟩ (fun Y hY j hj hz=>?_) m3 t3).trans (Od.iff hR hM)
 obtain ⟨j0,h1,h2,h3⟩:=hz
 have:∀ x,Rfr (Ef L) col j0 x->x<L.length/\Y x:=fun x h3=>by
  induction h3 with
  | refl=>exact ⟨h1,hY.un j0 (List.mem_range.2 h1) h2⟩
  | step _ a b ih=>
   have hr:=(hM.prs.rc _ _).2 b
   exact ⟨hM.lt hr,hY.st _ _ _ (List.mem_range.2 ih.1) (List.mem_range.2 (hM.lt hr)) ih.2 a hr⟩
 exact (this j h3).2
theorem Rws.less {L:List (List Int)} {c i:Nat} (hR:Rws L c):Rws (L.eraseIdx i) c:=fun r hr=>by
 rw [gd_lt hr,List.getElem_eraseIdx]
 rw [List.length_eraseIdx] at hr
 split
 ·rename_i h
  have h2:r<L.length:=by split at hr <;> omega
  have:=hR r h2
  rwa [gd_lt h2] at this
 ·have h2:r+1<L.length:=by split at hr <;> omega
  have:=hR (r+1) h2
  rwa [gd_lt h2] at this
theorem ref28_over_run {L:List (List Int)} {C:Nat} {Q:List Bool->Prop} (hR:Rws L C) (hC:C<=64) (hl:L.length<=64) (H:∀ o:List Bool,o.length=L.length->(∀ i,i<L.length->(gd o i=true ↔ Od L i))->Q o):(ref28_over.f L).run Q:=by
 unfold ref28_over.f
 refine W.bd (pairs_run hR hC hl fun row col hM=>?_)
 refine W.loop_c (fun s:List Bool×Int=>∃ t:Nat,s.2=t/\t<=L.length/\s.1.length=L.length/\∀ i,i<t->(gd s.1 i=true ↔ Od L i)) (fun s=>L.length - s.2.toNat) ⟨0,rfl,Nat.zero_le _,by simp,fun i hi=>by omega⟩ ?_
 rintro ⟨o,_⟩ P ⟨t,rfl,ht,ho,hg⟩ hgo hbrk hout
 simp only at ho hg hgo hbrk |-
 unfold ref28_over.l1 ref28_without.f
 refine W.run_if (fun c=>?_) fun c=>hbrk _ ?_
 ·refine W.bd (W.req_i (by omega) (W.req_i (by show _/\_;omega) (W.req_i (by omega) (W.req_i (by rw [List.length_take];omega) (W.req_i (by rw [List.length_take,List.length_drop];omega) ?_)))))
  rw [show ((t:Int)+1).toNat=t+1 by omega,Int.toNat_natCast,<- List.eraseIdx_eq_take_drop_succ]
  have el:(L.eraseIdx t).length=L.length - 1:=by rw [List.length_eraseIdx,if_pos (by omega)]
  show (W.bind (ref28_pairs.f (L.eraseIdx t)) _).run P
  refine W.bd (pairs_run hR.less hC (by omega) fun row' col' hM'=>W.req_i (by omega) (hgo _ ⟨t+1,by simp,by omega,by simpa using ho,fun i hi=>?_⟩ (by simp;omega)))
  rw [el] at hM' |-
  have:=less_iff hR (show t<L.length by omega) hM hM'
  simp only [gd_set]
  by_cases e:t=i
  ·subst e
   rw [if_pos ⟨rfl,by omega⟩,decide_eq_true_iff,<- this]
   omega
  ·rw [if_neg fun g=>e g.1]
   exact hg i (by omega)
 ·obtain rfl:t=L.length:=by omega
  unfold ref28_over.j1
  exact H o ho hg
end Go.Proofs.Ytbjnmmgnonldnaa.E
namespace Go.Proofs.Ytbjnmmgnonldnaa.E
open Go Go.RowKit
theorem sorted_ext {α:Type} {R:α->α->Prop} (as:∀ a b,R a b->¬ R b a):∀ {l l':List α},l.Pairwise R->l'.Pairwise R->(∀ x,x ∈ l ↔ x ∈ l')->l=l'
 | [],[],_,_,_=>rfl
 | [],b ::l',_,_,h=>absurd ((h b).2 (List.mem_cons_self ..)) (by simp)
 | a ::l,[],_,_,h=>absurd ((h a).1 (List.mem_cons_self ..)) (by simp)
 | a ::l,b ::l',h1,h2,h=>by
  obtain ⟨a1,a2⟩:=List.pairwise_cons.1 h1
  obtain ⟨b1,b2⟩:=List.pairwise_cons.1 h2
  have e:a=b:=Classical.byContradiction fun c=>by
   have x:a ∈ l':=by
    rcases List.mem_cons.1 ((h a).1 (List.mem_cons_self ..)) with g | g
    ·exact absurd g c
    ·exact g
   have y:b ∈ l:=by
    rcases List.mem_cons.1 ((h b).2 (List.mem_cons_self ..)) with g | g
    ·exact absurd g.symm c
    ·exact g
   exact as _ _ (b1 a x) (a1 b y)
  subst e
  have irr:∀ x,R x x->False:=fun x g=>as _ _ g g
  rw [sorted_ext as a2 b2 fun x=>⟨fun hx=>?_,fun hx=>?_⟩]
  ·rcases List.mem_cons.1 ((h x).1 (List.mem_cons_of_mem _ hx)) with g | g
   ·exact absurd (a1 x hx) (fun k=>irr _ (g ▸ k))
   ·exact g
  ·rcases List.mem_cons.1 ((h x).2 (List.mem_cons_of_mem _ hx)) with g | g
   ·exact absurd (b1 x hx) (fun k=>irr _ (g ▸ k))
   ·exact g
structure Se (n:Int) (l:List Int):Prop where
 so:l.Pairwise (· < ·)
 lt:∀ x,x ∈ l->0<=x/\x<n
theorem Asc.se {n:Int} {l:List Int} (h:Asc l n):Se n l:=by
 refine ⟨List.pairwise_iff_getElem.2 fun i j hi hj hij=>?_,fun x hx=>?_⟩
 ·have:∀ d,i+d+1<l.length->gd l i<gd l (i+d+1):=fun d=>by
   induction d with
   | zero=>intro hd;have:=(h (i+0+1) hd).2.2 (by omega);simpa using this
   | succ d ih=>
    intro hd
    have h1:=(h (i+(d+1)+1) hd).2.2 (by omega)
    have h2:=ih (by omega)
    rw [show i+(d+1)+1 - 1=i+d+1 by omega] at h1
    omega
  have:=this (j - i - 1) (by omega)
  rw [show i+(j - i - 1)+1=j by omega,gd_lt hi,gd_lt hj] at this
  exact this
 ·obtain ⟨t,ht,rfl⟩:=List.mem_iff_getElem.1 hx
  have:=h t ht
  rw [gd_lt ht] at this
  exact ⟨this.1,this.2.1⟩
section
variable {n:Int} {l l':List Int}
theorem Se.nd (h:Se n l):l.Nodup:=List.Pairwise.imp (fun h e=>by omega) h.so
theorem Se.sub (h:Se n l) (s:l'.Sublist l):Se n l':=⟨h.so.sublist s,fun x hx=>h.lt x (s.subset hx)⟩
theorem Se.ext (h:Se n l) {n':Int} (h':Se n' l') (e:∀ x,x ∈ l ↔ x ∈ l'):l=l':=sorted_ext (fun a b h=>by omega) h.so h'.so e
theorem Se.len {N:Nat} (h:Se N l):l.length<=N:=by
 have n:(l.map Int.toNat).Nodup:=nodup_map h.nd fun a b ha hb e=>by
  have:=h.lt a ha
  have:=h.lt b hb
  omega
 have:=n.length_le_of_subset (l₂:=List.range N) fun x hx=>by
  obtain ⟨k,hk,rfl⟩:=List.mem_map.1 hx
  have:=h.lt k hk
  exact List.mem_range.2 (by omega)
 simpa using this
theorem Se.all (N:Nat):Se N ((List.range N).map fun (i:Nat)=>(i:Int)):=⟨List.pairwise_map.2 (List.Pairwise.imp (fun h=>by omega) List.pairwise_lt_range),fun x hx=>by
 obtain ⟨k,hk,rfl⟩:=List.mem_map.1 hx
 have:=List.mem_range.1 hk
 omega⟩
theorem sub_of_subset:∀ {l l':List Int},l.Pairwise (· < ·)->l'.Pairwise (· < ·)->l ⊆ l'->l.Sublist l'
 | [],l',_,_,_=>List.nil_sublist l'
 | a ::l,[],_,_,h=>absurd (h (List.mem_cons_self ..)) (by simp)
 | a ::l,b ::l',h1,h2,h=>by
  obtain ⟨a1,a2⟩:=List.pairwise_cons.1 h1
  obtain ⟨b1,b2⟩:=List.pairwise_cons.1 h2
  by_cases e:a=b
  ·subst e
   refine (sub_of_subset a2 b2 fun x hx=>?_).cons_cons a
   rcases List.mem_cons.1 (h (List.mem_cons_of_mem _ hx)) with g | g
   ·have:=a1 x hx;omega
   ·exact g
  ·refine (sub_of_subset h1 b2 fun x hx=>?_).cons b
   rcases List.mem_cons.1 (h hx) with g | g
   ·subst g
    rcases List.mem_cons.1 hx with k | k
    ·exact absurd k.symm e
    ·have:=a1 x k
     rcases List.mem_cons.1 (h (List.mem_cons_self ..)) with m | m
     ·exact absurd m e
     ·have:=b1 a m;omega
   ·exact g
end
def vl:List Int->Int
 | []=>0
 | a ::l=>(a+1)*10 ^ l.length+vl l
def D10 (l:List Int):Prop:=∀ x,x ∈ l->0<=x/\x<10
theorem D10.tl {a:Int} {l:List Int} (h:D10 (a ::l)):D10 l:=fun x hx=>h x (List.mem_cons_of_mem _ hx)
theorem Se.d10 {n:Int} {l:List Int} (h:Se n l) (hn:n<=10):D10 l:=fun x hx=>by have:=h.lt x hx;omega
theorem p10 (n:Nat):(0:Int)<10 ^ n:=Int.pow_pos (by decide)
theorem vl_bd:∀ {l:List Int},D10 l->10 ^ l.length<=9*vl l+1/\9*vl l+10<=10*10 ^ l.length
 | [],_=>by simp [vl]
 | a ::l,h=>by
  obtain ⟨h1,h2⟩:=vl_bd h.tl
  have ha:=h a (List.mem_cons_self ..)
  have p:=p10 l.length
  have m1:=Int.mul_le_mul_of_nonneg_right (show 1<=a+1 by omega) (Int.le_of_lt p)
  have m2:=Int.mul_le_mul_of_nonneg_right (show a+1<=10 by omega) (Int.le_of_lt p)
  simp only [vl,List.length_cons,Int.pow_succ]
  omega
theorem vl_len {l l':List Int} (h:D10 l) (h':D10 l') (g:l.length<l'.length):vl l<vl l':=by
 have a:=(vl_bd h).2
 have b:=(vl_bd h').1
 have:(10:Int) ^ (l.length+1)<=10 ^ l'.length:=by
  have:=Nat.pow_le_pow_right (n:=10) (by decide) g
  exact_mod_cast this
 rw [Int.pow_succ] at this
 omega
theorem vl_head {a b:Int} {l l':List Int} (h:D10 (a ::l)) (h':D10 (b ::l')) (e:l.length=l'.length) (g:a<b):vl (a ::l)<vl (b ::l'):=by
 have x:=(vl_bd h.tl).2
 have y:=(vl_bd h'.tl).1
 have p:=p10 l.length
 rw [<- e] at y
 simp only [vl]
 rw [<- e]
 have m:=Int.mul_le_mul_of_nonneg_right (show a+1+1<=b+1 by omega) (Int.le_of_lt p)
 rw [Int.add_mul (a+1) 1,Int.one_mul] at m
 omega
theorem vl_app {l l':List Int} (e:l.length=l'.length):∀ p:List Int,(vl (p ++ l)<vl (p ++ l') ↔ vl l<vl l')
 | []=>Iff.rfl
 | a ::p=>by
  have:=vl_app e p
  simp only [List.cons_append,vl,List.length_append,e]
  omega
theorem vl_inj:∀ {l l':List Int},D10 l->D10 l'->vl l=vl l'->l=l'
 | [],[],_,_,_=>rfl
 | [],b ::l',h,h',e=>by have:=vl_len h h' (by simp);omega
 | a ::l,[],h,h',e=>by have:=vl_len h' h (by simp);omega
 | a ::l,b ::l',h,h',e=>by
  have el:l.length=l'.length:=by
   rcases Nat.lt_trichotomy l.length l'.length with c | c | c
   ·have:=vl_len h h' (by simpa using c);omega
   ·exact c
   ·have:=vl_len h' h (by simpa using c);omega
  have ab:a=b:=by
   rcases Int.lt_trichotomy a b with c | c | c
   ·have:=vl_head h h' el c;omega
   ·exact c
   ·have:=vl_head h' h el.symm c;omega
  subst ab
  simp only [vl,el] at e
  rw [vl_inj h.tl h'.tl (by omega)]
def Tst (m:api_Incidence) (s:List Int):Prop:=s≠[]/\∀ t,t<s.length->Od (pick m s) t
theorem pick_len {m:api_Incidence} {s:List Int} :(pick m s).length=s.length:=by unfold pick;rw [List.length_map]
theorem pick_rws {m:api_Incidence} {s:List Int} {C:Nat} (hv:IncOk m) (hC:m.Cols=C) (h:Se m.Rows s):Rws (pick m s) C:=fun r hr=>by
 rw [pick_len] at hr
 have:=h.lt _ (gd_mem hr)
 have hl:=hv.len
 rw [pick_gd hr,gi_gdi (show gd s r=((gd s r).toNat:Nat) by omega)]
 have:=hv.asc (gd s r).toNat (by omega)
 rwa [hC] at this
def dec10 (k:A10_bool):List Int:=((List.range 10).map fun (i:Nat)=>(i:Int)).filter fun i=>k.at_ i
theorem at_put {k:A10_bool} {i j:Int} {v:Bool} (hi:0<=i/\i<10) (hj:0<=j/\j<10):(k.put i v).at_ j=if j=i then v else k.at_ j:=by
 unfold A10_bool.at_ A10_bool.put
 rcases (by omega:j=0\/j=1\/j=2\/j=3\/j=4\/j=5\/j=6\/j=7\/j=8\/j=9) with rfl | rfl | rfl | rfl | rfl | rfl | rfl | rfl | rfl | rfl <;> simp [eq_comm]
theorem fault_key_run {l:List Int} {Q:A10_bool->Prop} (h:Se 10 l) (H:∀ k,dec10 k=l->Q k):(fault_key.f l).run Q:=by
 unfold fault_key.f
 refine W.loop_c (fun s:A10_bool×Int=>∃ t:Nat,s.2=t/\t<=l.length/\∀ j:Int,0<=j->j<10->(s.1.at_ j=true ↔ j ∈ l.take t)) (fun s=>l.length - s.2.toNat) ⟨0,rfl,Nat.zero_le _,fun j h0 h1=>?_⟩ ?_
 ·simp only [List.take_zero,List.not_mem_nil,iff_false,Bool.not_eq_true]
  unfold A10_bool.at_
  rcases (by omega:j=0\/j=1\/j=2\/j=3\/j=4\/j=5\/j=6\/j=7\/j=8\/j=9) with rfl | rfl | rfl | rfl | rfl | rfl | rfl | rfl | rfl | rfl <;> rfl
 rintro ⟨k,_⟩ P ⟨t,rfl,ht,hg⟩ hgo hbrk hout
 simp only at hg hgo hbrk |-
 unfold fault_key.l1
 simp only [gi_gd]
 refine W.run_if (fun c=>?_) fun c=>hbrk _ ?_
 ·have m:=h.lt _ (gd_mem (show t<l.length by omega))
  refine W.req_i (by omega) (W.req_i m (hgo _ ⟨t+1,by simp,by omega,fun j h0 h1=>?_⟩ (by simp;omega)))
  rw [at_put m ⟨h0,h1⟩,List.take_add_one,List.getElem?_eq_getElem (by omega),List.mem_append,<- hg j h0 h1,gd_lt (by omega)]
  by_cases e:j=l[t]
  ·rw [if_pos e];simp [e]
  ·rw [if_neg e];simp [e]
 ·obtain rfl:t=l.length:=by omega
  unfold fault_key.j1
  refine H k ?_
  have s:Se 10 (dec10 k):=(Se.all 10).sub (List.filter_sublist)
  refine s.ext h fun x=>?_
  rw [List.take_length] at hg
  unfold dec10
  rw [List.mem_filter]
  constructor
  ·rintro ⟨a,b⟩
   have:=(Se.all 10).lt x a
   exact (hg x this.1 this.2).1 b
  ·intro hx
   have:=h.lt x hx
   exact ⟨List.mem_map.2 ⟨x.toNat,List.mem_range.2 (by omega),by omega⟩,(hg x this.1 this.2).2 hx⟩
def nb:List Bool->Nat
 | []=>0
 | b ::l=>(if b=true then 1 else 0)+2*nb l
theorem nb_lt:∀ l:List Bool,nb l<2 ^ l.length
 | []=>by simp [nb]
 | b ::l=>by
  have:=nb_lt l
  simp only [nb,List.length_cons,Nat.pow_succ]
  split <;> omega
theorem nb_inj:∀ {l l':List Bool},l.length=l'.length->nb l=nb l'->l=l'
 | [],[],_,_=>rfl
 | [],_ ::_,h,_=>by simp at h
 | _ ::_,[],h,_=>by simp at h
 | a ::l,b ::l',h,e=>by
  simp only [nb] at e
  have:nb l=nb l'/\a=b:=by cases a <;> cases b <;> simp at e |- <;> omega
  rw [nb_inj (by simpa using h) this.1,this.2]
structure AskOk (m:api_Incidence) (l:List (A10_bool×Bool)):Prop where
 nd:(l.map (·.1)).Nodup
 ok:∀ k v,alook l k=some v->(v=true ↔ Tst m (dec10 k))
theorem AskOk.nil {m:api_Incidence} :AskOk m []:=⟨List.Pairwise.nil,fun _ _ h=>by cases h⟩
theorem AskOk.len {m:api_Incidence} {l:List (A10_bool×Bool)} (h:AskOk m l):l.length<=1024:=by
 have n:((l.map (·.1)).map fun k=>nb k.bits).Nodup:=nodup_map h.nd fun a b ha hb e=>A10_bool.bits_inj a b (nb_inj (show a.bits.length=b.bits.length from rfl) e)
 have:=n.length_le_of_subset (l₂:=List.range 1024) fun x hx=>by
  obtain ⟨k,hk,rfl⟩:=List.mem_map.1 hx
  have:=nb_lt k.bits
  rw [show k.bits.length=10 from rfl] at this
  exact List.mem_range.2 (by omega)
 simpa using this
theorem AskOk.set {m:api_Incidence} {l:List (A10_bool×Bool)} (h:AskOk m l) {k:A10_bool} {v:Bool} (hv:v=true ↔ Tst m (dec10 k)):AskOk m (aset l k v):=by
 constructor
 ·rw [aset_keys]
  split
  ·exact h.nd
  ·rename_i g
   exact List.nodup_append.2 ⟨h.nd,by simp,fun a ha b hb e=>g (by rw [<- List.mem_singleton.1 hb,<- e];exact ha)⟩
 ·intro k' v' h'
  rw [alook_aset] at h'
  split at h'
  ·rename_i e
   rw [e,<- Option.some.inj h'];exact hv
  ·exact h.ok k' v' h'
theorem fil_all {n:Nat} {p:Nat->Bool} :((List.range n).filter p).length=n ↔ ∀ t,t<n->p t=true:=by
 constructor
 ·intro h t ht
  have:=fil_eq (p:=p) (q:=fun _=>true) (fun _ _=>rfl) (l:=List.range n) (by rw [h];exact Nat.le_trans (List.length_filter_le ..) (by simp)) t (List.mem_range.2 ht) rfl
  exact this
 ·intro h
  rw [List.filter_eq_self.2 fun t ht=>h t (List.mem_range.1 ht),List.length_range]
theorem fault_isTest_run {d:api_Diag} {l:List (A10_bool×Bool)} {s:List Int} {Q:Bool×List (A10_bool×Bool)->Prop} (hv:IncOk d.M) (hr:d.M.Rows<=10) (ha:AskOk d.M l) (hs:Se d.M.Rows s) (H:∀ b l',(b=true ↔ Tst d.M s)->AskOk d.M l'->Q (b,l')):(fault_tester_isTest.f ⟨d,l⟩ s).run Q:=by
 classical
 have c0:=hv.c0
 have c1:=hv.c1
 have r0:=hv.r0
 obtain ⟨C,hC⟩:∃ C:Nat,d.M.Cols=C:=⟨d.M.Cols.toNat,by omega⟩
 have s10:Se 10 s:=⟨hs.so,fun x hx=>by have:=hs.lt x hx;omega⟩
 have sl:s.length<=10:=s10.len (N:=10)
 unfold fault_tester_isTest.f
 refine W.bd (fault_key_run s10 fun k hk=>W.run_if (fun c=>?_) fun c=>?_)
 ·obtain ⟨v,hv2⟩:=Option.isSome_iff_exists.1 c
  have:=ha.ok k v hv2
  rw [hk] at this
  simp only [hv2]
  exact H v l this ha
 ·refine W.bd (fault_over_run hC (by omega) (by omega) (fun i hi=>?_) (pick_rws hv hC hs) ?_)
  ·have:=hs.lt i hi
   have:=hv.len
   show 0<=i/\i<(d.M.E.length:Int)
   omega
  ·have last:∀ b:Bool,(b=true ↔ Tst d.M s)->(fault_tester_isTest.j1 ⟨d,l⟩ k b).run Q:=fun b hb=>by
    unfold fault_tester_isTest.j1
    have:=ha.len
    exact W.req_i ⟨by omega,by simp only;omega⟩ (H b _ hb (ha.set (by rw [hk];exact hb)))
   refine W.run_if (fun c2=>last _ ?_) fun c2=>last _ ?_
   ·unfold overV Tst
    rw [List.length_map,pick_len,decide_eq_true_iff]
    constructor
    ·intro e
     refine ⟨fun g=>by rw [g] at c2;simp at c2,fun t ht=>?_⟩
     exact of_decide_eq_true (p:=Od (pick d.M s) t) ((fil_all (p:=fun t=>decide (Od (pick d.M s) t))).1 (Int.ofNat_inj.1 e) t ht)
    ·rintro ⟨_,g⟩
     exact congrArg Int.ofNat (fil_all.2 fun t ht=>decide_eq_true (g t ht))
   ·refine ⟨fun g=>(by cases g),fun g=>absurd (List.length_eq_zero_iff.1 (by omega)) g.1⟩
end Go.Proofs.Ytbjnmmgnonldnaa.E
