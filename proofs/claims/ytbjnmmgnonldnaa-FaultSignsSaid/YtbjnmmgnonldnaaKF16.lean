/- Joined. -/
import Derived.Test.YtbjnmmgnonldnaaKF13
set_option linter.unusedVariables false
set_option linter.unusedSimpArgs false
namespace Go.Proofs.Ytbjnmmgnonldnaa.E
open Go Go.RowKit
theorem ifn_run {f l:List Int} {Q:Int->Prop} (H1:∀ i:Nat,i<f.length->gd f i ∈ l->(∀ j,j<i->gd f j ∉ l)->Q i) (H0:(∀ j,j<f.length->gd f j ∉ l)->Q (-1)):(slices_IndexFunc_int.f f l).run Q:=by
 unfold slices_IndexFunc_int.f
 refine W.loop_c (fun p=>∃ i:Nat,p=i/\i<=f.length/\∀ j,j<i->gd f j ∉ l) (fun p=>f.length - p.toNat) ⟨0,rfl,Nat.zero_le _,fun j hj=>by omega⟩ ?_
 rintro _ P ⟨i,rfl,hi,hr⟩ hgo hbrk hout
 unfold slices_IndexFunc_int.l1 fault_acts_1.f
 simp only [gi_gd]
 refine W.run_if (fun c=>W.req_i (by omega) (W.bd (W.bd (contains_iff fun b hb=>?_)))) fun c=>hbrk _ ?_
 ·show (if b=true then _ else _:W _).run P
  refine W.run_if (fun c2=>hout _ (H1 i (by omega) (hb.1 c2) hr)) fun c2=>hgo _ ⟨i+1,by simp,by omega,fun j hj=>?_⟩ (by simp;omega)
  by_cases e:j=i
  ·rw [e];exact fun g=>c2 (hb.2 g)
  ·exact hr j (by omega)
 ·obtain rfl:i=f.length:=by omega
  unfold slices_IndexFunc_int.j1
  exact H0 hr
theorem acts_run {f l:List Int} {Q:Bool->Prop} (H:∀ b,(b=true ↔ ∃ x,x ∈ f/\x ∈ l)->Q b):(fault_acts.f f l).run Q:=by
 unfold fault_acts.f slices_ContainsFunc_int.f
 refine W.bd (W.bd (ifn_run (fun i h1 h2 _=>?_) fun h=>?_))
 ·show Q _
  refine H _ ?_
  rw [decide_eq_true (by omega)]
  exact ⟨fun _=>⟨_,gd_mem h1,h2⟩,fun _=>rfl⟩
 ·show Q _
  refine H _ ?_
  rw [decide_eq_false (by omega)]
  refine ⟨fun g=>(by cases g),fun ⟨x,g1,g2⟩=>?_⟩
  obtain ⟨j,hj,rfl⟩:=List.mem_iff_getElem.1 g1
  exact absurd (by rwa [gd_lt hj]) (h j hj)
theorem meets_run {f l:List Int} {Q:Bool->Prop} (H:∀ b,(b=true ↔ ∃ x,x ∈ f/\x ∈ l)->Q b):(ref28_meets.f f l).run Q:=by
 unfold ref28_meets.f
 refine W.loop_c (fun p=>∃ i:Nat,p=i/\i<=f.length/\∀ j,j<i->gd f j ∉ l) (fun p=>f.length - p.toNat) ⟨0,rfl,Nat.zero_le _,fun j hj=>by omega⟩ ?_
 rintro _ P ⟨i,rfl,hi,hr⟩ hgo hbrk hout
 unfold ref28_meets.l1
 refine W.run_if (fun c=>?_) fun c=>hbrk _ ?_
 ·refine W.loop_c (fun p=>∃ k:Nat,p=k/\k<=l.length/\∀ j,j<k->gd f i≠gd l j) (fun p=>l.length - p.toNat) ⟨0,rfl,Nat.zero_le _,fun j hj=>by omega⟩ ?_
  rintro _ P2 ⟨k,rfl,hk,hr2⟩ hgo2 hbrk2 hout2
  unfold ref28_meets.l2
  simp only [gi_gd]
  refine W.run_if (fun c2=>W.req_i (by omega) (W.req_i (by omega) (W.run_if (fun c3=>hout2 _ (hout _ (H _ ⟨fun _=>⟨_,gd_mem (show i<f.length by omega),c3 ▸ gd_mem (by omega)⟩,fun _=>rfl⟩))) fun c3=>hgo2 _ ⟨k+1,by simp,by omega,fun j hj=>?_⟩ (by simp;omega)))) fun c2=>hbrk2 _ ?_
  ·by_cases e:j=k
   ·rw [e];exact c3
   ·exact hr2 j (by omega)
  ·unfold ref28_meets.j2
   refine hgo _ ⟨i+1,by simp,by omega,fun j hj=>?_⟩ (by simp;omega)
   by_cases e:j=i
   ·rw [e];intro g
    obtain ⟨x,hx,e2⟩:=List.mem_iff_getElem.1 g
    exact hr2 x (by omega) (by rw [gd_lt hx,e2])
   ·exact hr j (by omega)
 ·obtain rfl:i=f.length:=by omega
  unfold ref28_meets.j1
  refine H _ ⟨fun g=>(by cases g),fun ⟨x,g1,g2⟩=>?_⟩
  obtain ⟨j,hj,rfl⟩:=List.mem_iff_getElem.1 g1
  exact absurd (by rwa [gd_lt hj]) (hr j hj)
end Go.Proofs.Ytbjnmmgnonldnaa.E
namespace Go.Proofs.Ytbjnmmgnonldnaa.E
open Go Go.RowKit
theorem gd_map {α β:Type} [Inhabited α] [Inhabited β] {f:α->β} {l:List α} {k:Nat} (h:k<l.length):gd (l.map f) k=f (gd l k):=by
 rw [gd_lt (by simpa using h),List.getElem_map,gd_lt h]
open Classical in
theorem map_take_succ {α β:Type} [Inhabited α] {l:List α} {f:α->β} {t:Nat} (ht:t<l.length):(l.take (t+1)).map f=(l.take t).map f ++ [f (gd l t)]:=by
 rw [List.take_add_one,List.getElem?_eq_getElem ht,List.map_append,gd_lt ht];rfl
open Classical in
theorem sameBools_run {a b:List Bool} {Q:Bool->Prop} (H0:a=b->Q true) (H1:a≠b->Q false):(law28_sameBools.f a b).run Q:=by
 unfold law28_sameBools.f
 refine W.loop_c (fun p=>∃ t:Nat,p=t/\t<=a.length/\t<=b.length/\∀ j,j<t->gd a j=gd b j) (fun p=>a.length - p.toNat) ⟨0,rfl,Nat.zero_le _,Nat.zero_le _,fun j hj=>by omega⟩ ?_
 rintro _ P ⟨t,rfl,ht,ht2,hj⟩ hgo hbrk hout
 unfold law28_sameBools.l1
 simp only [gi_gd]
 have done: ¬ (t<a.length/\t<b.length)->P (.brk (t:Int)):=fun h=>hbrk _ (by
  unfold law28_sameBools.j1
  show Q _
  by_cases e:a.length=b.length
  ·rw [decide_eq_true (by omega)]
   exact H0 (list_gd_ext e fun k hk=>hj k (by omega))
  ·rw [decide_eq_false (by omega)]
   exact H1 fun g=>e (by rw [g]))
 refine W.run_if (fun c=>W.run_if (fun c2=>W.req_i (by omega) (W.req_i (by omega) (W.run_if (fun c3=>hgo _ ⟨t+1,by simp,by omega,by omega,fun j hj'=>?_⟩ (by simp;omega)) fun c3=>hout _ (H1 fun g=>c3 (by rw [g];simp))))) fun c2=>done (by omega)) fun c=>done (by omega)
 by_cases e:j=t
 ·rw [e];exact eq_of_beq c3
 ·exact hj j (by omega)
theorem sameRows_run {a b:List (List Bool)} {Q:Bool->Prop} (H0:a=b->Q true) (H1:a≠b->Q false):(law28_sameRows.f a b).run Q:=by
 unfold law28_sameRows.f
 refine W.loop_c (fun p=>∃ t:Nat,p=t/\t<=a.length/\t<=b.length/\∀ j,j<t->gd a j=gd b j) (fun p=>a.length - p.toNat) ⟨0,rfl,Nat.zero_le _,Nat.zero_le _,fun j hj=>by omega⟩ ?_
 rintro _ P ⟨t,rfl,ht,ht2,hj⟩ hgo hbrk hout
 unfold law28_sameRows.l1
 simp only [gi_gd]
 have done: ¬ (t<a.length/\t<b.length)->P (.brk (t:Int)):=fun h=>hbrk _ (by
  unfold law28_sameRows.j1
  show Q _
  by_cases e:a.length=b.length
  ·rw [decide_eq_true (by omega)]
   exact H0 (list_gd_ext e fun k hk=>hj k (by omega))
  ·rw [decide_eq_false (by omega)]
   exact H1 fun g=>e (by rw [g]))
 refine W.run_if (fun c=>W.run_if (fun c2=>W.req_i (by omega) (W.req_i (by omega) (W.bd (sameBools_run (fun g=>W.run_if (fun _=>hgo _ ⟨t+1,by simp,by omega,by omega,fun j hj'=>?_⟩ (by simp;omega)) fun c=>absurd rfl c) fun g=>W.run_if (fun c=>by cases c) fun _=>hout _ (H1 fun k=>g (by rw [k])))))) fun c2=>done (by omega)) fun c=>done (by omega)
 by_cases e:j=t
 ·rw [e];exact g
 ·exact hj j (by omega)
end Go.Proofs.Ytbjnmmgnonldnaa.E
