/- Joined. -/
import Derived.Test.YtbjnmmgnonldnaaKF13
set_option linter.unusedVariables false
set_option linter.unusedSimpArgs false
namespace Go.Proofs.Ytbjnmmgnonldnaa.E
open Go Go.RowKit
def keep (n:Nat) (left:List Int):List Int:=((List.range n).filter fun (i:Nat)=>decide ((i:Int) ∉ left)).map fun (i:Nat)=>(i:Int)
def Act (E:List (List Int)) (f left:List Int):Prop:=∃ t,t<(keep E.length left).length/\Od ((keep E.length left).map fun i=>gi E i) t/\gd (keep E.length left) t ∈ f
theorem keep_mem {n:Nat} {left:List Int} {x:Int} :x ∈ keep n left ↔ 0<=x/\x<n/\x ∉ left:=by
 unfold keep
 rw [List.mem_map]
 constructor
 ·rintro ⟨i,hi,rfl⟩
  obtain ⟨a,b⟩:=List.mem_filter.1 hi
  have:=List.mem_range.1 a
  exact ⟨by omega,by omega,of_decide_eq_true b⟩
 ·rintro ⟨a,b,c⟩
  exact ⟨x.toNat,List.mem_filter.2 ⟨List.mem_range.2 (by omega),decide_eq_true (by rwa [Int.toNat_of_nonneg a])⟩,by omega⟩
theorem keep_se {n:Nat} {left:List Int} :Se n (keep n left):=(Se.all n).sub (List.filter_sublist.map _)
theorem keep_all {n:Nat} :keep n [] =(List.range n).map fun (i:Nat)=>(i:Int):=keep_se.ext (Se.all n) fun x=>by
 rw [keep_mem,List.mem_map]
 constructor
 ·rintro ⟨a,b,_⟩
  exact ⟨x.toNat,List.mem_range.2 (by omega),by omega⟩
 ·rintro ⟨i,hi,rfl⟩
  have:=List.mem_range.1 hi
  exact ⟨by omega,by omega,by simp⟩
theorem map_all {E:List (List Int)} :((List.range E.length).map fun (i:Nat)=>(i:Int)).map (fun i=>gi E i)=E:=by
 rw [List.map_map]
 refine list_gd_ext (by simp) fun k hk=>?_
 have hk:k<E.length:=by simpa using hk
 rw [gd_lt (by simpa using hk),List.getElem_map,List.getElem_range]
 exact gi_gd E k
theorem pick_all {m:api_Incidence} (hv:IncOk m):pick m ((List.range m.Rows.toNat).map fun (i:Nat)=>(i:Int))=m.E:=by
 have:=hv.len
 rw [show m.Rows.toNat=m.E.length by omega]
 exact map_all
theorem ifn_run {f l:List Int} {Q:Int->Prop} (H1:∀ i:Nat,i<f.length->gd f i ∈ l->(∀ j,j<i->gd f j ∉ l)->Q i) (H0:(∀ j,j<f.length->gd f j ∉ l)->Q (-1)):(slices_IndexFunc_int.f f l).run Q:=by
 unfold slices_IndexFunc_int.f
 refine W.loop_c (fun p=>∃ i:Nat,p=i/\i<=f.length/\∀ j,j<i->gd f j ∉ l) (fun p=>f.length - p.toNat) ⟨0,rfl,Nat.zero_le _,fun j hj=>by omega⟩ ?_
 rintro _ P ⟨i,rfl,hi,hr⟩ hgo hbrk hout
 unfold slices_IndexFunc_int.l1 fault_acts_1.f
 simp only [gi_gd]
 refine W.run_if (fun c=>W.req_i (by omega) (W.bd (W.bd (contains_iff fun b hb=>?_)))) fun c=>hbrk _ ?_
 ·show (if b=true then _ else _:W _).run P
  refine W.run_if (fun c2=>hout _ (H1 i (by omega) (hb.1 c2) hr)) fun c2=>hgo _ ⟨i+1,by simp,by omega,fun j hj=>?_⟩ (by simp;omega)
  by_cases e:j=i
  ·rw [e];exact fun g=>c2 (hb.2 g)
  ·exact hr j (by omega)
 ·obtain rfl:i=f.length:=by omega
  unfold slices_IndexFunc_int.j1
  exact H0 hr
theorem acts_run {f l:List Int} {Q:Bool->Prop} (H:∀ b,(b=true ↔ ∃ x,x ∈ f/\x ∈ l)->Q b):(fault_acts.f f l).run Q:=by
 unfold fault_acts.f slices_ContainsFunc_int.f
 refine W.bd (W.bd (ifn_run (fun i h1 h2 _=>?_) fun h=>?_))
 ·show Q _
  refine H _ ?_
  rw [decide_eq_true (by omega)]
  exact ⟨fun _=>⟨_,gd_mem h1,h2⟩,fun _=>rfl⟩
 ·show Q _
  refine H _ ?_
  rw [decide_eq_false (by omega)]
  refine ⟨fun g=>(by cases g),fun ⟨x,g1,g2⟩=>?_⟩
  obtain ⟨j,hj,rfl⟩:=List.mem_iff_getElem.1 g1
  exact absurd (by rwa [gd_lt hj]) (h j hj)
open Classical in
noncomputable def rdV (d:api_Diag) (e:Int):List Int×Int×Int:=
 if e≠0 then ([],0,e) else (((List.range d.M.E.length).filter fun t=>decide (Od d.M.E t)).map fun (i:Nat)=>(i:Int),(((List.range d.M.E.length).filter fun t=>decide (Od d.M.E t)).length:Int) - (((List.range d.M.Cols.toNat).filter fun k=>decide (Oc d.M.E k)).length:Int),0)
theorem fault_Redundant_run2 {d:api_Diag} {Q:List Int×Int×Int->Prop} (H:∀ e,DiagR d e->Q (rdV d e)):(fault_Redundant.f d).run Q:=by
 classical
 by_cases hk:DiagOk d
 ·refine fault_Redundant_run hk fun o ho=>?_
  have:=H 0 (.inl ⟨rfl,hk⟩)
  unfold rdV at this
  rw [if_neg (by simp)] at this
  rw [pick_all hk.m] at ho
  have hl:=hk.m.len
  rw [show d.M.Rows.toNat=d.M.E.length by omega] at ho
  have e1:o.1=((List.range d.M.E.length).filter fun t=>decide (Od d.M.E t)).map fun (i:Nat)=>(i:Int):=by
   rw [ho]
   unfold overV
   refine List.map_congr_left fun i hi=>?_
   have:i<d.M.E.length:=List.mem_range.1 (List.mem_filter.1 hi).1
   rw [gd_lt (by simpa using this),List.getElem_map,List.getElem_range]
  rw [e1,List.length_map,show o.2=(((List.range d.M.Cols.toNat).filter fun k=>decide (Oc d.M.E k)).length:Int) by rw [ho];rfl]
  exact this
 ·unfold fault_Redundant.f
  refine W.bd (fault_Validate_run fun e he=>W.run_if (fun c=>?_) fun c=>absurd (he.ok (by omega)) hk)
  have:=H e he
  unfold rdV at this
  rwa [if_pos c] at this
end Go.Proofs.Ytbjnmmgnonldnaa.E
namespace Go.Proofs.Ytbjnmmgnonldnaa.E
open Go Go.RowKit
theorem gd_map {α β:Type} [Inhabited α] [Inhabited β] {f:α->β} {l:List α} {k:Nat} (h:k<l.length):gd (l.map f) k=f (gd l k):=by
 rw [gd_lt (by simpa using h),List.getElem_map,gd_lt h]
open Classical in
noncomputable def dtV (d:api_Diag) (e:Int):List Bool×Int:=if e≠0 then ([],e) else (d.Faults.map fun f=>decide (Act d.M.E f []),0)
theorem rd_act {d:api_Diag} {f:List Int} :(∃ x,x ∈ f/\x ∈ (rdV d 0).1) ↔ Act d.M.E f []:=by
 classical
 unfold rdV Act
 rw [if_neg (by simp),keep_all,map_all]
 simp only [List.mem_map,List.mem_filter,List.mem_range,decide_eq_true_iff,List.length_map,List.length_range]
 constructor
 ·rintro ⟨x,h1,t,⟨h2,h3⟩,rfl⟩
  refine ⟨t,h2,h3,?_⟩
  rwa [gd_lt (by simpa using h2),List.getElem_map,List.getElem_range]
 ·rintro ⟨t,h2,h3,h1⟩
  rw [gd_lt (by simpa using h2),List.getElem_map,List.getElem_range] at h1
  exact ⟨_,h1,t,⟨h2,h3⟩,rfl⟩
theorem map_take_succ {α β:Type} [Inhabited α] {l:List α} {f:α->β} {t:Nat} (ht:t<l.length):(l.take (t+1)).map f=(l.take t).map f ++ [f (gd l t)]:=by
 rw [List.take_add_one,List.getElem?_eq_getElem ht,List.map_append,gd_lt ht];rfl
theorem fault_Detected_run {d:api_Diag} {Q:List Bool×Int->Prop} (H:∀ e,DiagR d e->Q (dtV d e)):(fault_Detected.f d).run Q:=by
 classical
 unfold fault_Detected.f
 refine W.bd (fault_Redundant_run2 fun e he=>?_)
 have H:=H e he
 have e3:(rdV d e).2.2=e:=by
  unfold rdV
  split
  ·rfl
  ·show (0:Int)=e
   omega
 unfold dtV at H
 rw [e3]
 refine W.run_if (fun c=>by rw [if_pos c] at H;exact H) fun c=>?_
 rw [if_neg c] at H
 obtain rfl:e=0:=by omega
 have hk:=he.ok rfl
 have:=hk.f
 refine W.loop_c (fun s:List Bool×Int=>∃ t:Nat,s.2=t/\t<=d.Faults.length/\s.1=(d.Faults.take t).map fun f=>decide (Act d.M.E f [])) (fun s=>d.Faults.length - s.2.toNat) ⟨0,rfl,Nat.zero_le _,rfl⟩ ?_
 rintro ⟨_,_⟩ P ⟨t,rfl,ht,rfl⟩ hgo hbrk hout
 simp only at hgo hbrk |-
 unfold fault_Detected.l1
 simp only [gi_gd]
 refine W.run_if (fun c1=>W.req_i (by omega) (W.bd (acts_run fun b hb=>W.req_i (by rw [List.length_map,List.length_take];omega) (hgo _ ⟨t+1,by simp,by omega,?_⟩ (by simp;omega))))) fun c1=>hbrk _ ?_
 ·show _ ++ _=_
  rw [map_take_succ (by omega)]
  congr 2
  rw [Bool.eq_iff_iff,hb,decide_eq_true_iff,rd_act]
 ·obtain rfl:t=d.Faults.length:=by omega
  unfold fault_Detected.j1
  rw [List.take_length]
  exact H
end Go.Proofs.Ytbjnmmgnonldnaa.E
