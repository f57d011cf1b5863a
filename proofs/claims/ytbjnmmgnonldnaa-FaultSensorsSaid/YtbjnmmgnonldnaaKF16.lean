/- Joined. -/
import Derived.Test.YtbjnmmgnonldnaaKF13
set_option linter.unusedVariables false
set_option linter.unusedSimpArgs false
namespace Go.Proofs.Ytbjnmmgnonldnaa.E
open Go Go.RowKit
def keep (n:Nat) (left:List Int):List Int:=((List.range n).filter fun (i:Nat)=>decide ((i:Int) ∉ left)).map fun (i:Nat)=>(i:Int)
def Act (E:List (List Int)) (f left:List Int):Prop:=∃ t,t<(keep E.length left).length/\Od ((keep E.length left).map fun i=>gi E i) t/\gd (keep E.length left) t ∈ f
theorem keep_mem {n:Nat} {left:List Int} {x:Int} :x ∈ keep n left ↔ 0<=x/\x<n/\x ∉ left:=by
 unfold keep
 rw [List.mem_map]
 constructor
 ·rintro ⟨i,hi,rfl⟩
  obtain ⟨a,b⟩:=List.mem_filter.1 hi
  have:=List.mem_range.1 a
  exact ⟨by omega,by omega,of_decide_eq_true b⟩
 ·rintro ⟨a,b,c⟩
  exact ⟨x.toNat,List.mem_filter.2 ⟨List.mem_range.2 (by omega),decide_eq_true (by rwa [Int.toNat_of_nonneg a])⟩,by omega⟩
theorem keep_se {n:Nat} {left:List Int} :Se n (keep n left):=(Se.all n).sub (List.filter_sublist.map _)
theorem keep_all {n:Nat} :keep n [] =(List.range n).map fun (i:Nat)=>(i:Int):=keep_se.ext (Se.all n) fun x=>by
 rw [keep_mem,List.mem_map]
 constructor
 ·rintro ⟨a,b,_⟩
  exact ⟨x.toNat,List.mem_range.2 (by omega),by omega⟩
 ·rintro ⟨i,hi,rfl⟩
  have:=List.mem_range.1 hi
  exact ⟨by omega,by omega,by simp⟩
theorem keep_rws {E:List (List Int)} {C:Nat} (h:Rws E C) (left:List Int):Rws ((keep E.length left).map fun i=>gi E i) C:=fun r hr=>by
 rw [List.length_map] at hr
 have:=(keep_se (n:=E.length) (left:=left)).lt _ (gd_mem hr)
 rw [gd_lt (by simpa using hr),List.getElem_map,<- gd_lt hr,gi_gdi (show gd (keep E.length left) r=((gd (keep E.length left) r).toNat:Nat) by omega)]
 exact h _ (by omega)
theorem ifn_run {f l:List Int} {Q:Int->Prop} (H1:∀ i:Nat,i<f.length->gd f i ∈ l->(∀ j,j<i->gd f j ∉ l)->Q i) (H0:(∀ j,j<f.length->gd f j ∉ l)->Q (-1)):(slices_IndexFunc_int.f f l).run Q:=by
 unfold slices_IndexFunc_int.f
 refine W.loop_c (fun p=>∃ i:Nat,p=i/\i<=f.length/\∀ j,j<i->gd f j ∉ l) (fun p=>f.length - p.toNat) ⟨0,rfl,Nat.zero_le _,fun j hj=>by omega⟩ ?_
 rintro _ P ⟨i,rfl,hi,hr⟩ hgo hbrk hout
 unfold slices_IndexFunc_int.l1 fault_acts_1.f
 simp only [gi_gd]
 refine W.run_if (fun c=>W.req_i (by omega) (W.bd (W.bd (contains_iff fun b hb=>?_)))) fun c=>hbrk _ ?_
 ·show (if b=true then _ else _:W _).run P
  refine W.run_if (fun c2=>hout _ (H1 i (by omega) (hb.1 c2) hr)) fun c2=>hgo _ ⟨i+1,by simp,by omega,fun j hj=>?_⟩ (by simp;omega)
  by_cases e:j=i
  ·rw [e];exact fun g=>c2 (hb.2 g)
  ·exact hr j (by omega)
 ·obtain rfl:i=f.length:=by omega
  unfold slices_IndexFunc_int.j1
  exact H0 hr
theorem acts_run {f l:List Int} {Q:Bool->Prop} (H:∀ b,(b=true ↔ ∃ x,x ∈ f/\x ∈ l)->Q b):(fault_acts.f f l).run Q:=by
 unfold fault_acts.f slices_ContainsFunc_int.f
 refine W.bd (W.bd (ifn_run (fun i h1 h2 _=>?_) fun h=>?_))
 ·show Q _
  refine H _ ?_
  rw [decide_eq_true (by omega)]
  exact ⟨fun _=>⟨_,gd_mem h1,h2⟩,fun _=>rfl⟩
 ·show Q _
  refine H _ ?_
  rw [decide_eq_false (by omega)]
  refine ⟨fun g=>(by cases g),fun ⟨x,g1,g2⟩=>?_⟩
  obtain ⟨j,hj,rfl⟩:=List.mem_iff_getElem.1 g1
  exact absurd (by rwa [gd_lt hj]) (h j hj)
theorem meets_run {f l:List Int} {Q:Bool->Prop} (H:∀ b,(b=true ↔ ∃ x,x ∈ f/\x ∈ l)->Q b):(ref28_meets.f f l).run Q:=by
 unfold ref28_meets.f
 refine W.loop_c (fun p=>∃ i:Nat,p=i/\i<=f.length/\∀ j,j<i->gd f j ∉ l) (fun p=>f.length - p.toNat) ⟨0,rfl,Nat.zero_le _,fun j hj=>by omega⟩ ?_
 rintro _ P ⟨i,rfl,hi,hr⟩ hgo hbrk hout
 unfold ref28_meets.l1
 refine W.run_if (fun c=>?_) fun c=>hbrk _ ?_
 ·refine W.loop_c (fun p=>∃ k:Nat,p=k/\k<=l.length/\∀ j,j<k->gd f i≠gd l j) (fun p=>l.length - p.toNat) ⟨0,rfl,Nat.zero_le _,fun j hj=>by omega⟩ ?_
  rintro _ P2 ⟨k,rfl,hk,hr2⟩ hgo2 hbrk2 hout2
  unfold ref28_meets.l2
  simp only [gi_gd]
  refine W.run_if (fun c2=>W.req_i (by omega) (W.req_i (by omega) (W.run_if (fun c3=>hout2 _ (hout _ (H _ ⟨fun _=>⟨_,gd_mem (show i<f.length by omega),c3 ▸ gd_mem (by omega)⟩,fun _=>rfl⟩))) fun c3=>hgo2 _ ⟨k+1,by simp,by omega,fun j hj=>?_⟩ (by simp;omega)))) fun c2=>hbrk2 _ ?_
  ·by_cases e:j=k
   ·rw [e];exact c3
   ·exact hr2 j (by omega)
  ·unfold ref28_meets.j2
   refine hgo _ ⟨i+1,by simp,by omega,fun j hj=>?_⟩ (by simp;omega)
   by_cases e:j=i
   ·rw [e];intro g
    obtain ⟨x,hx,e2⟩:=List.mem_iff_getElem.1 g
    exact hr2 x (by omega) (by rw [gd_lt hx,e2])
   ·exact hr j (by omega)
 ·obtain rfl:i=f.length:=by omega
  unfold ref28_meets.j1
  refine H _ ⟨fun g=>(by cases g),fun ⟨x,g1,g2⟩=>?_⟩
  obtain ⟨j,hj,rfl⟩:=List.mem_iff_getElem.1 g1
  exact absurd (by rwa [gd_lt hj]) (hr j hj)
theorem keep_succ {t:Nat} {left:List Int} :keep (t+1) left=if (t:Int) ∈ left then keep t left else keep t left ++ [(t:Int)]:=by
 unfold keep
 rw [fil_snoc]
 by_cases c:(t:Int) ∈ left
 ·rw [if_pos c,if_neg (by simpa using c)]
 ·rw [if_neg c,if_pos (decide_eq_true c),List.map_append];rfl
theorem ref28_acts_run {E:List (List Int)} {C:Nat} {f left:List Int} {Q:Bool->Prop} (hR:Rws E C) (hC:C<=64) (hl:E.length<=64) (H:∀ b,(b=true ↔ Act E f left)->Q b):(ref28_acts.f E f left).run Q:=by
 unfold ref28_acts.f
 refine W.loop_c (fun s:List (List Int)×List Int×Int=>∃ t:Nat,s.2.2=t/\t<=E.length/\s.2.1=keep t left/\s.1=(keep t left).map fun i=>gi E i) (fun s=>E.length - s.2.2.toNat) ⟨0,rfl,Nat.zero_le _,rfl,rfl⟩ ?_
 rintro ⟨_,_,_⟩ P ⟨t,rfl,ht,rfl,rfl⟩ hgo hbrk hout
 simp only at hgo hbrk |-
 unfold ref28_acts.l2 ref28_acts.j4
 have kl:(keep t left).length<=t:=keep_se.len
 refine W.run_if (fun c=>W.bd (meets_run fun b hb=>W.run_if (fun c2=>hgo _ ⟨t+1,by simp,by omega,?_,?_⟩ (by simp;omega)) fun c2=>W.req_i (by omega) (W.req_i (by rw [List.length_map];omega) (W.req_i (by omega) (hgo _ ⟨t+1,by simp,by omega,?_,?_⟩ (by simp;omega)))))) fun c=>hbrk _ ?_
 ·show _=_
  obtain ⟨x,g1,g2⟩:=hb.1 c2
  rw [keep_succ,if_pos (List.mem_singleton.1 g1 ▸ g2)]
 ·show _=_
  obtain ⟨x,g1,g2⟩:=hb.1 c2
  rw [keep_succ,if_pos (List.mem_singleton.1 g1 ▸ g2)]
 ·show _ ++ _=_
  rw [keep_succ,if_neg fun g=>c2 (hb.2 ⟨_,List.mem_singleton.2 rfl,g⟩)]
 ·show _ ++ _=_
  rw [keep_succ,if_neg fun g=>c2 (hb.2 ⟨_,List.mem_singleton.2 rfl,g⟩),List.map_append];rfl
 obtain rfl:t=E.length:=by omega
 clear hgo hbrk hout
 unfold ref28_acts.j1
 refine W.bd (ref28_over_run (keep_rws hR left) hC (by rw [List.length_map];omega) fun o ho hg=>?_)
 rw [List.length_map] at ho hg
 refine W.loop_c (fun p=>∃ i:Nat,p=i/\i<=(keep E.length left).length/\∀ j,j<i->¬ (Od ((keep E.length left).map fun i=>gi E i) j/\gd (keep E.length left) j ∈ f)) (fun p=>(keep E.length left).length - p.toNat) ⟨0,rfl,Nat.zero_le _,fun j hj=>by omega⟩ ?_
 rintro _ P ⟨i,rfl,hi,hr⟩ hgo hbrk hout
 unfold ref28_acts.l1 ref28_acts.j3
 simp only [gi_gd,List.length_map]
 have next: ¬ (Od ((keep E.length left).map fun i=>gi E i) i/\gd (keep E.length left) i ∈ f)->i<(keep E.length left).length->P (.go ((i:Int)+1)):=fun h h2=>hgo _ ⟨i+1,by simp,by omega,fun j hj=>by
  by_cases e:j=i
  ·rw [e];exact h
  ·exact hr j (by omega)⟩ (by simp;omega)
 refine W.run_if (fun c=>W.req_i (by omega) (W.run_if (fun c2=>W.req_i (by omega) (W.bd (meets_run fun b hb=>W.run_if (fun c3=>hout _ (H _ ⟨fun _=>⟨i,by omega,(hg i (by omega)).1 c2,?_⟩,fun _=>rfl⟩)) fun c3=>next (fun g=>c3 (hb.2 ⟨_,List.mem_singleton.2 rfl,g.2⟩)) (by omega)))) fun c2=>next (fun g=>c2 ((hg i (by omega)).2 g.1)) (by omega))) fun c=>hbrk _ ?_
 ·obtain ⟨x,g1,g2⟩:=hb.1 c3
  exact List.mem_singleton.1 g1 ▸ g2
 ·obtain rfl:i=(keep E.length left).length:=by omega
  unfold ref28_acts.j2
  exact H _ ⟨fun g=>(by cases g),fun ⟨t,h1,h2,h3⟩=>absurd ⟨h2,h3⟩ (hr t h1)⟩
end Go.Proofs.Ytbjnmmgnonldnaa.E
namespace Go.Proofs.Ytbjnmmgnonldnaa.E
open Go Go.RowKit
theorem gd_map {α β:Type} [Inhabited α] [Inhabited β] {f:α->β} {l:List α} {k:Nat} (h:k<l.length):gd (l.map f) k=f (gd l k):=by
 rw [gd_lt (by simpa using h),List.getElem_map,gd_lt h]
theorem ifn_v1 (f l:List Int):slices_IndexFunc_int_v1.f f l=slices_IndexFunc_int.f f l:=rfl
theorem del_run {l g:List Int} {Q:List Int->Prop} (hl:l.length<=1000) (H:Q (l.filter fun x=>decide (x ∉ g))):(slices_DeleteFunc_int.f l g).run Q:=by
 unfold slices_DeleteFunc_int.f
 rw [ifn_v1]
 refine W.bd (ifn_run (fun i h1 h2 h3=>W.run_if (fun c=>by omega) fun _=>?_) fun h=>W.run_if (fun _=>?_) fun c=>absurd rfl c)
 ·refine W.req_i (by show _/\_;omega) ?_
  refine W.loop_c (fun s:List Int×Int×Int=>∃ i j:Nat,s.2.1=i/\s.2.2=j/\i<=j/\j<=l.length/\s.1.length=l.length/\s.1.take i=(l.take j).filter (fun x=>decide (x ∉ g))/\∀ k,j<=k->k<l.length->gd s.1 k=gd l k) (fun s=>l.length - s.2.2.toNat) ⟨i,i+1,rfl,by simp,by omega,by omega,rfl,?_,fun k _ _=>rfl⟩ ?_
  ·show l.take i=_
   rw [List.take_add_one,List.getElem?_eq_getElem h1,List.filter_append]
   have e1:(l.take i).filter (fun x=>decide (x ∉ g))=l.take i:=List.filter_eq_self.2 fun x hx=>by
    obtain ⟨j,hj,rfl⟩:=List.mem_iff_getElem.1 hx
    have hj2:j<i:=by rw [List.length_take] at hj;omega
    have:=h3 j hj2
    rw [gd_lt (by omega)] at this
    rw [List.getElem_take]
    exact decide_eq_true this
   rw [gd_lt h1] at h2
   rw [e1]
   simp [h2]
  rintro ⟨s,_,_⟩ P ⟨i,j,rfl,rfl,hij,hj,hsl,ht,hs⟩ hgo hbrk hout
  simp only at hsl ht hs hgo hbrk |-
  unfold slices_DeleteFunc_int.l1 slices_DeleteFunc_int.j2 fault_without_1.f
  simp only [gi_gd]
  refine W.run_if (fun c=>W.req_i (by omega) (W.bd (W.bd (contains_iff fun b hb=>?_)))) fun c=>hbrk _ ?_
  ·rw [hs j (Nat.le_refl _) (by omega)] at hb
   show (if b=true then _ else _:W _).run P
   have tj:l.take (j+1)=l.take j ++ [gd l j]:=by rw [List.take_add_one,List.getElem?_eq_getElem (by omega),gd_lt (by omega)];rfl
   refine W.run_if (fun c2=>hgo _ ⟨i,j+1,rfl,by simp,by omega,by omega,hsl,?_,fun k h1 h2=>hs k (by omega) h2⟩ (by simp;omega)) fun c2=>W.req_i (by omega) (W.req_i (by show _/\_;omega) (hgo _ ⟨i+1,j+1,by simp,by simp,by omega,by omega,by simpa using hsl,?_,fun k h1 h2=>?_⟩ (by simp;omega)))
   ·rw [tj,List.filter_append,<- ht]
    simp [hb.1 c2]
   ·simp only [Int.toNat_natCast]
    rw [tj,List.filter_append,<- ht,List.take_add_one,List.getElem?_eq_getElem (by rw [List.length_set];omega),List.getElem_set_self,List.take_set_of_le (Nat.le_refl _),hs j (Nat.le_refl _) (by omega)]
    have:gd l j ∉ g:=fun k=>c2 (hb.2 k)
    simp [this]
   ·simp only [Int.toNat_natCast,gd_set]
    rw [if_neg fun e=>by have:=e.1;omega]
    exact hs k (by omega) h2
  ·obtain rfl:j=l.length:=by omega
   unfold slices_DeleteFunc_int.j1
   dsimp only
   refine W.req_i (by omega) (W.req_i (by rw [List.length_append,List.length_take,List.length_replicate];omega) ?_)
   show Q _
   rw [Int.toNat_natCast,List.take_left' (by rw [List.length_take];omega),ht,List.take_length]
   exact H
 ·show Q _
  rwa [List.filter_eq_self.2 fun x hx=>by
   obtain ⟨j,hj,rfl⟩:=List.mem_iff_getElem.1 hx
   have:=h j hj
   rw [gd_lt hj] at this
   exact decide_eq_true this] at H
theorem without_run {m:api_Incidence} {R:Nat} {g:List Int} {Q:List Int->Prop} (hR:m.Rows=R) (h:R<=64) (H:Q (keep R g)):(fault_without.f m g).run Q:=by
 unfold fault_without.f
 rw [hR]
 refine W.bd (fault_all_run h (W.bd (del_run (by simp;omega) ?_)))
 show Q _
 rw [List.filter_map]
 exact H
theorem over_act {E:List (List Int)} {C:Nat} {f left:List Int} :(∃ x,x ∈ f/\x ∈ (overV ((keep E.length left).map fun i=>gi E i) C (keep E.length left)).1) ↔ Act E f left:=by
 classical
 unfold overV Act
 simp only [List.mem_map,List.mem_filter,List.mem_range,decide_eq_true_iff,List.length_map]
 constructor
 ·rintro ⟨x,h1,t,⟨h2,h3⟩,rfl⟩
  exact ⟨t,h2,h3,h1⟩
 ·rintro ⟨t,h2,h3,h1⟩
  exact ⟨_,h1,t,⟨h2,h3⟩,rfl⟩
open Classical in
theorem map_take_succ {α β:Type} [Inhabited α] {l:List α} {f:α->β} {t:Nat} (ht:t<l.length):(l.take (t+1)).map f=(l.take t).map f ++ [f (gd l t)]:=by
 rw [List.take_add_one,List.getElem?_eq_getElem ht,List.map_append,gd_lt ht];rfl
end Go.Proofs.Ytbjnmmgnonldnaa.E
