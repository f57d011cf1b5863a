/- Joined. -/
import Derived.Test.YtbjnmmgnonldnaaKF8
set_option linter.unusedVariables false
set_option linter.unusedSimpArgs false
namespace Go.Proofs.Ytbjnmmgnonldnaa.E
open Go Go.RowKit
def sbs:List Int->Nat->List (List Int)
 | _,0=>[[]]
 | [],_+1=>[]
 | e ::es,n+1=>(sbs es n).map (e :: ·) ++ sbs es (n+1)
theorem sbs_len:∀ {l:List Int} {n:Nat},l.length<n->sbs l n= []
 | _,0,h=>absurd h (Nat.not_lt_zero _)
 | [],n+1,h=>rfl
 | e ::es,n+1,h=>by
  simp only [List.length_cons] at h
  unfold sbs
  rw [sbs_len (by omega),sbs_len (by omega)];rfl
theorem mem_sbs:∀ {l:List Int} {n:Nat} {s:List Int},s ∈ sbs l n ↔ s.Sublist l/\s.length=n
 | l,0,s=>by
  unfold sbs
  rw [List.mem_singleton]
  exact ⟨fun h=>by rw [h];exact ⟨List.nil_sublist _,rfl⟩,fun h=>List.length_eq_zero_iff.1 h.2⟩
 | [],n+1,s=>by
  unfold sbs
  exact ⟨fun h=>(by cases h),fun h=>(by have:=List.sublist_nil.1 h.1;rw [this] at h;exact absurd h.2 (by simp))⟩
 | e ::es,n+1,s=>by
  unfold sbs
  rw [List.mem_append,List.mem_map,mem_sbs,List.sublist_cons_iff]
  constructor
  ·rintro (⟨r,hr,rfl⟩ | ⟨h1,h2⟩)
   ·obtain ⟨a,b⟩:=mem_sbs.1 hr
    exact ⟨.inr ⟨r,rfl,a⟩,by simp [b]⟩
   ·exact ⟨.inl h1,h2⟩
  ·rintro ⟨h1 | ⟨r,rfl,h1⟩,h2⟩
   ·exact .inr ⟨h1,h2⟩
   ·exact .inl ⟨r,mem_sbs.2 ⟨h1,by simpa using h2⟩,rfl⟩
def Lt (a b:List Int):Prop:=vl a<vl b
theorem sbs_pw:∀ {l:List Int} {n:Nat},Se 10 l->(sbs l n).Pairwise Lt
 | l,0,_=>by unfold sbs;exact List.pairwise_singleton _ _
 | [],n+1,_=>List.Pairwise.nil
 | e ::es,n+1,h=>by
  have ht:Se 10 es:=h.sub (List.sublist_cons_self e es)
  unfold sbs
  refine List.pairwise_append.2 ⟨List.pairwise_map.2 ((sbs_pw ht).imp_of_mem fun {a b} ha hb hab=>?_),sbs_pw ht,fun x hx y hy=>?_⟩
  ·exact (vl_app ((mem_sbs.1 ha).2.trans (mem_sbs.1 hb).2.symm) [e]).2 hab
  ·obtain ⟨r,hr,rfl⟩:=List.mem_map.1 hx
   obtain ⟨r1,r2⟩:=mem_sbs.1 hr
   obtain ⟨y1,y2⟩:=mem_sbs.1 hy
   cases y with
   | nil=>simp at y2
   | cons f fs=>
    refine vl_head ((h.sub (r1.cons_cons e)).d10 (by omega)) ((ht.sub y1).d10 (by omega)) (by simp at y2;omega) ?_
    exact (List.pairwise_cons.1 h.so).1 f (y1.subset (List.mem_cons_self ..))
def alls (l:List Int):List (List Int):=(List.range l.length).flatMap fun n=>sbs l (n+1)
theorem mem_alls {l s:List Int} :s ∈ alls l ↔ s.Sublist l/\s≠[]:=by
 unfold alls
 rw [List.mem_flatMap]
 constructor
 ·rintro ⟨n,_,h⟩
  obtain ⟨a,b⟩:=mem_sbs.1 h
  exact ⟨a,fun e=>by rw [e] at b;simp at b⟩
 ·rintro ⟨a,b⟩
  have:=List.length_pos_iff.2 b
  have:=a.length_le
  exact ⟨s.length - 1,List.mem_range.2 (by omega),mem_sbs.2 ⟨a,by omega⟩⟩
theorem alls_pw {l:List Int} (h:Se 10 l):(alls l).Pairwise Lt:=by
 unfold alls
 refine List.pairwise_flatMap.2 ⟨fun n _=>sbs_pw h,List.pairwise_lt_range.imp fun {a b} hab x hx y hy=>?_⟩
 obtain ⟨x1,x2⟩:=mem_sbs.1 hx
 obtain ⟨y1,y2⟩:=mem_sbs.1 hy
 exact vl_len ((h.sub x1).d10 (by omega)) ((h.sub y1).d10 (by omega)) (by omega)
open Classical in
noncomputable def stq (P:List Int->Prop) (out:List (List Int)) (c:List Int):List (List Int):=if (∃ o,o ∈ out/\o ⊆ c)\/¬ P c then out else out ++ [c]
structure Kpt (P:List Int->Prop) (A out:List (List Int)):Prop where
 sub:out.Sublist A
 mem:∀ c,c ∈ out ↔ c ∈ A/\P c/\∀ o,o ∈ A->P o->o ⊆ c->o=c
 cov:∀ o,o ∈ A->P o->∃ o',o' ∈ out/\o' ⊆ o
theorem Kpt.nil {P:List Int->Prop} :Kpt P [] []:=⟨List.nil_sublist _,fun c=>by simp,fun o h=>by cases h⟩
theorem Kpt.stq {P:List Int->Prop} {A out:List (List Int)} (h:Kpt P A out) {c:List Int} (hc:∀ x,x ∈ A->¬ c ⊆ x):Kpt P (A ++ [c]) (stq P out c):=by
 classical
 have cA:c ∉ A:=fun g=>hc c g fun _ k=>k
 unfold E.stq
 split
 ·rename_i g
  refine ⟨h.sub.trans (List.sublist_append_left ..),fun x=>?_,fun o ho ht=>?_⟩
  ·rw [h.mem,List.mem_append,List.mem_singleton]
   constructor
   ·rintro ⟨a,b,d⟩
    refine ⟨.inl a,b,fun o ho ht hs=>?_⟩
    rcases List.mem_append.1 ho with k | k
    ·exact d o k ht hs
    ·rw [List.mem_singleton.1 k] at hs
     exact absurd hs (hc x a)
   ·rintro ⟨a | rfl,b,d⟩
    ·exact ⟨a,b,fun o ho=>d o (List.mem_append_left _ ho)⟩
    ·rcases g with ⟨o,g1,g2⟩ | g
     ·have:=(h.mem o).1 g1
      have e:=d o (List.mem_append_left _ this.1) this.2.1 g2
      exact absurd (e ▸ this.1) cA
     ·exact absurd b g
  ·rcases List.mem_append.1 ho with k | k
   ·exact h.cov o k ht
   ·rw [List.mem_singleton.1 k] at ht |-
    rcases g with ⟨o,g1,g2⟩ | g
    ·exact ⟨o,g1,g2⟩
    ·exact absurd ht g
 ·rename_i g
  have g1:∀ o,o ∈ out->¬ o ⊆ c:=fun o ho hs=>g (.inl ⟨o,ho,hs⟩)
  have g2:P c:=Classical.byContradiction fun k=>g (.inr k)
  refine ⟨h.sub.append (List.Sublist.refl _),fun x=>?_,fun o ho ht=>?_⟩
  ·rw [List.mem_append,List.mem_append,List.mem_singleton,h.mem]
   constructor
   ·rintro (⟨a,b,d⟩ | rfl)
    ·refine ⟨.inl a,b,fun o ho ht hs=>?_⟩
     rcases List.mem_append.1 ho with k | k
     ·exact d o k ht hs
     ·rw [List.mem_singleton.1 k] at hs
      exact absurd hs (hc x a)
    ·refine ⟨.inr rfl,g2,fun o ho ht hs=>?_⟩
     rcases List.mem_append.1 ho with k | k
     ·obtain ⟨o',k1,k2⟩:=h.cov o k ht
      exact absurd (fun y hy=>hs (k2 hy)) (g1 o' k1)
     ·exact List.mem_singleton.1 k
   ·rintro ⟨a | rfl,b,d⟩
    ·exact .inl ⟨a,b,fun o ho=>d o (List.mem_append_left _ ho)⟩
    ·exact .inr rfl
  ·rcases List.mem_append.1 ho with k | k
   ·obtain ⟨o',k1,k2⟩:=h.cov o k ht
    exact ⟨o',List.mem_append_left _ k1,k2⟩
   ·exact ⟨o,List.mem_append_right _ k,fun _ k=>k⟩
theorem Kpt.fold {P:List Int->Prop} :∀ {B A out:List (List Int)},Kpt P A out->(A ++ B).Pairwise (fun x y=>¬ y ⊆ x)->Kpt P (A ++ B) (B.foldl (E.stq P) out)
 | [],A,out,h,_=>by rw [List.append_nil];exact h
 | c ::B,A,out,h,hp=>by
  have e:A ++ c ::B=(A ++ [c]) ++ B:=by simp
  rw [e] at hp |-
  refine Kpt.fold (h.stq fun x hx=>?_) hp
  have:=(List.pairwise_append.1 (List.pairwise_append.1 hp).1).2.2
  exact this x hx c (by simp)
noncomputable def lst (m:api_Incidence) (l:List Int):List (List Int):=(alls l).foldl (stq (Tst m)) []
theorem lst_kpt {m:api_Incidence} {l:List Int} (h:Se 10 l):Kpt (Tst m) (alls l) (lst m l):=by
 have:=Kpt.fold (P:=Tst m) (A:=[]) (B:=alls l) Kpt.nil ?_
 ·rw [List.nil_append] at this;exact this
 ·rw [List.nil_append]
  refine (alls_pw h).imp_of_mem fun {x y} hx hy hxy hs=>?_
  have x1:=(mem_alls.1 hx).1
  have y1:=(mem_alls.1 hy).1
  have sx:=h.sub x1
  have sy:=h.sub y1
  have sl:=sub_of_subset sy.so sx.so hs
  rcases Nat.lt_or_ge y.length x.length with g | g
  ·have:=vl_len (sy.d10 (by omega)) (sx.d10 (by omega)) g
   unfold Lt at hxy;omega
  ·have:=sl.eq_of_length_le g
   rw [this] at hxy
   unfold Lt at hxy;omega
theorem lst_pw {m:api_Incidence} {l:List Int} (h:Se 10 l):(lst m l).Pairwise Lt:=(alls_pw h).sublist (lst_kpt h).sub
def Lea (m:api_Incidence) (l c:List Int):Prop:=c.Sublist l/\Tst m c/\∀ o:List Int,o.Sublist l->Tst m o->o ⊆ c->o=c
theorem lst_mem {m:api_Incidence} {l c:List Int} (h:Se 10 l):c ∈ lst m l ↔ Lea m l c:=by
 rw [(lst_kpt h).mem]
 constructor
 ·rintro ⟨a,b,d⟩
  exact ⟨(mem_alls.1 a).1,b,fun o ho ht=>d o (mem_alls.2 ⟨ho,ht.1⟩) ht⟩
 ·rintro ⟨a,b,d⟩
  exact ⟨mem_alls.2 ⟨a,b.1⟩,b,fun o ho ht=>d o (mem_alls.1 ho).1 ht⟩
theorem contains_iff {l:List Int} {x:Int} {Q:Bool->Prop} (H:∀ b,(b=true ↔ x ∈ l)->Q b):(slices_Contains_int.f l x).run Q:=by
 unfold slices_Contains_int.f
 refine W.bd (index_run (fun i h1 h2 _=>H _ ?_) fun h=>H _ ?_)
 ·rw [decide_eq_true (by omega)]
  exact ⟨fun _=>h2 ▸ gd_mem h1,fun _=>rfl⟩
 ·rw [decide_eq_false (by omega)]
  refine ⟨fun g=>(by cases g),fun g=>?_⟩
  obtain ⟨j,hj,rfl⟩:=List.mem_iff_getElem.1 g
  exact absurd (gd_lt hj) (h j hj)
theorem within_run {a b:List Int} {Q:Bool->Prop} (H0:a ⊆ b->Q true) (H1: ¬ a ⊆ b->Q false):(fault_isWithin.f a b).run Q:=by
 unfold fault_isWithin.f
 refine W.loop_c (fun p=>∃ t:Nat,p=t/\t<=a.length/\∀ j,j<t->gd a j ∈ b) (fun p=>a.length - p.toNat) ⟨0,rfl,Nat.zero_le _,fun j hj=>by omega⟩ ?_
 rintro _ P ⟨t,rfl,ht,hg⟩ hgo hbrk hout
 unfold fault_isWithin.l1
 simp only [gi_gd]
 refine W.run_if (fun c=>W.req_i (by omega) (W.bd (contains_iff fun r hr=>W.run_if (fun c2=>hgo _ ⟨t+1,by simp,by omega,fun j hj=>?_⟩ (by simp;omega)) fun c2=>hout _ (H1 fun g=>c2 (hr.2 (g (gd_mem (by omega)))))))) fun c=>hbrk _ ?_
 ·by_cases e:j=t
  ·rw [e];exact hr.1 c2
  ·exact hg j (by omega)
 ·obtain rfl:t=a.length:=by omega
  unfold fault_isWithin.j1
  refine H0 fun x hx=>?_
  obtain ⟨j,hj,rfl⟩:=List.mem_iff_getElem.1 hx
  have:=hg j hj
  rwa [gd_lt hj] at this
theorem clone_run {l:List Int} {Q:List Int->Prop} (hl:l.length<=17592186044416) (H:Q l):(slices_Clone_int.f l).run Q:=by
 unfold slices_Clone_int.f
 refine W.bd ((W.any_r _ _).mpr fun b hb=>W.run_if (fun c=>?_) fun c=>W.req_i (by simpa using hl) ?_)
 ·rw [hb c] at H;exact H
 ·exact H
structure OutOk (l:List Int) (out:List (List Int)):Prop where
 nd:out.Nodup
 su:∀ o,o ∈ out->o.Sublist l
theorem vl_top {l:List Int} (h:Se 10 l):0<=vl l/\vl l<20000000000:=by
 have h1:=vl_bd (h.d10 (by omega))
 have p:=p10 l.length
 have:(10:Int) ^ l.length<=10 ^ 10:=by
  have:=Nat.pow_le_pow_right (n:=10) (by decide) (h.len (N:=10))
  exact_mod_cast this
 have e:(10:Int) ^ 10=10000000000:=by decide
 omega
theorem OutOk.len {l:List Int} {out:List (List Int)} (h:OutOk l out) (hs:Se 10 l):out.length<=20000000000:=by
 have n:(out.map fun o=>(vl o).toNat).Nodup:=nodup_map h.nd fun a b ha hb e=>by
  have sa:=hs.sub (h.su a ha)
  have sb:=hs.sub (h.su b hb)
  have:=vl_top sa
  have:=vl_top sb
  exact vl_inj (sa.d10 (by omega)) (sb.d10 (by omega)) (by omega)
 have:=n.length_le_of_subset (l₂:=List.range 20000000000) fun x hx=>by
  obtain ⟨k,hk,rfl⟩:=List.mem_map.1 hx
  have:=vl_top (hs.sub (h.su k hk))
  exact List.mem_range.2 (by omega)
 rwa [List.length_map,List.length_range] at this
theorem OutOk.stq {P:List Int->Prop} {l c:List Int} {out:List (List Int)} (h:OutOk l out) (hc:c.Sublist l):OutOk l (stq P out c):=by
 unfold E.stq
 split
 ·exact h
 ·rename_i g
  refine ⟨List.nodup_append.2 ⟨h.nd,by simp,fun a ha b hb e=>g (.inl ⟨a,ha,?_⟩)⟩,fun o ho=>?_⟩
  ·rw [e,List.mem_singleton.1 hb];exact fun _ k=>k
  ·rcases List.mem_append.1 ho with k | k
   ·exact h.su o k
   ·rw [List.mem_singleton.1 k];exact hc
theorem OutOk.fold {P:List Int->Prop} {l:List Int} :∀ {B out:List (List Int)},OutOk l out->(∀ c,c ∈ B->c.Sublist l)->OutOk l (B.foldl (E.stq P) out)
 | [],_,h,_=>h
 | c ::B,out,h,hB=>OutOk.fold (B:=B) (h.stq (hB c (List.mem_cons_self ..))) fun x hx=>hB x (List.mem_cons_of_mem _ hx)
theorem stq_prune {P:List Int->Prop} {ch:List Int} {out:List (List Int)} (h:∃ o,o ∈ out/\o ⊆ ch):∀ B:List (List Int),(B.map (ch ++ ·)).foldl (stq P) out=out
 | []=>rfl
 | b ::B=>by
  rw [List.map_cons,List.foldl_cons]
  have:stq P out (ch ++ b)=out:=by
   unfold stq
   obtain ⟨o,h1,h2⟩:=h
   exact if_pos (.inl ⟨o,h1,fun x hx=>List.mem_append_left _ (h2 hx)⟩)
  rw [this]
  exact stq_prune h B
abbrev FindA:=Int×Int×List Int×List (List Int)×fault_tester×List Int
def FindS (d:api_Diag) (eqs:List Int) (a:FindA) (Q:List (List Int)×List (A10_bool×Bool)->Prop):Prop:=
 ∃ (i need:Nat) (l:List (A10_bool×Bool)),a.1=i/\a.2.1=need/\need<=10/\i<=eqs.length/\a.2.2.2.2.1= ⟨d,l⟩/\a.2.2.2.2.2=eqs/\AskOk d.M l/\a.2.2.1.Sublist (eqs.take i)/\OutOk eqs a.2.2.2.1/\∀ l',AskOk d.M l'->Q (((sbs (eqs.drop i) need).map (a.2.2.1 ++ ·)).foldl (stq (Tst d.M)) a.2.2.2.1,l')
theorem find_run {d:api_Diag} {eqs:List Int} (hv:IncOk d.M) (hr:d.M.Rows<=10) (hs:Se d.M.Rows eqs) {a:FindA} {Q:List (List Int)×List (A10_bool×Bool)->Prop} (hS:FindS d eqs a Q):(fault_tester_minimal_1.f a.1 a.2.1 a.2.2.1 a.2.2.2.1 a.2.2.2.2.1 a.2.2.2.2.2).run Q:=by
 have s10:Se 10 eqs:=⟨hs.so,fun x hx=>by have:=hs.lt x hx;omega⟩
 have el:eqs.length<=10:=s10.len (N:=10)
 unfold fault_tester_minimal_1.f
 refine W.fix_run (fun a=>a.2.1.toNat) (S:=FindS d eqs) ?_ _ Q hS
 clear hS
 rintro rec ⟨x0,x1,ch,out,x4,x5⟩ Q hrec ⟨i,need,l,hx0,hx1,hn10,hi,hx4,hx5,hl,hch,hout0,H⟩
 simp only at hx0 hx1 hx4 hx5 hch hout0 H hrec |-
 subst hx0 hx1 hx4
 obtain rfl:eqs=x5:=hx5.symm
 have chs:ch.Sublist eqs:=hch.trans (List.take_sublist ..)
 have chl:=chs.length_le
 have ol:=hout0.len s10
 unfold fault_tester_minimal_1.b
 refine W.loop_c (fun p=>∃ t:Nat,p=t/\t<=out.length/\∀ j,j<t->¬ gd out j ⊆ ch) (fun p=>out.length - p.toNat) ⟨0,rfl,Nat.zero_le _,fun j hj=>by omega⟩ ?_
 rintro _ P ⟨t,rfl,ht,hg⟩ hgo hbrk hout
 unfold fault_tester_minimal_1.l2
 simp only [gi_gd]
 refine W.run_if (fun c=>W.req_i (by omega) (W.bd (within_run (fun h=>W.run_if (fun _=>hout _ ?_) fun c=>absurd rfl c) fun h=>W.run_if (fun c=>by cases c) fun _=>hgo _ ⟨t+1,by simp,by omega,fun j hj=>?_⟩ (by simp;omega)))) fun c=>hbrk _ ?_
 ·show Q _
  have:=H l hl
  rwa [stq_prune ⟨_,gd_mem (show t<out.length by omega),h⟩] at this
 ·by_cases e:j=t
  ·rw [e];exact h
  ·exact hg j (by omega)
 obtain rfl:t=out.length:=by omega
 have none_: ¬ ∃ o,o ∈ out/\o ⊆ ch:=fun ⟨o,h1,h2⟩=>by
  obtain ⟨j,hj,rfl⟩:=List.mem_iff_getElem.1 h1
  exact hg j hj (by rwa [gd_lt hj])
 clear hgo hbrk hout hg
 unfold fault_tester_minimal_1.j1
 refine W.run_if (fun c=>?_) fun c=>?_
 ·obtain rfl:need=0:=by omega
  unfold sbs at H
  simp only [List.map_cons,List.map_nil,List.foldl_cons,List.foldl_nil,List.append_nil] at H
  refine W.bd (fault_isTest_run hv hr hl (hs.sub chs) fun b l' hb hl'=>W.run_if (fun c2=>?_) fun c2=>?_)
  ·refine W.bd (clone_run (by omega) (W.req_i (by omega) ?_))
   have:=H l' hl'
   unfold stq at this
   rwa [if_neg fun g=>g.elim none_ fun k=>k (hb.1 c2)] at this
  ·have:=H l' hl'
   unfold stq at this
   rwa [if_pos (.inr fun k=>c2 (hb.2 k))] at this
 ·obtain ⟨nd,rfl⟩:∃ nd,need=nd+1:=⟨need - 1,by omega⟩
  refine W.loop_c (fun s:List (A10_bool×Bool)×List (List Int)×Int=>∃ j:Nat,s.2.2=j/\i<=j/\j<=eqs.length/\AskOk d.M s.1/\OutOk eqs s.2.1/\((sbs (eqs.drop j) (nd+1)).map (ch ++ ·)).foldl (stq (Tst d.M)) s.2.1=((sbs (eqs.drop i) (nd+1)).map (ch ++ ·)).foldl (stq (Tst d.M)) out) (fun s=>eqs.length - s.2.2.toNat) ⟨i,rfl,Nat.le_refl _,hi,hl,hout0,rfl⟩ ?_
  rintro ⟨l1,out1,_⟩ P ⟨j,rfl,hij,hj,hl1,ho1,he⟩ hgo hbrk hout
  simp only at hl1 ho1 he hgo hbrk |-
  unfold fault_tester_minimal_1.l1 fault_tester_minimal_1.j3
  simp only [gi_gd]
  rcases Nat.lt_or_ge eqs.length (j+(nd+1)) with big | big
  ·refine W.req_i (by show _/\_;omega) (W.run_if (fun c=>by omega) fun c=>hbrk _ ?_)
   unfold fault_tester_minimal_1.j2
   rw [sbs_len (by rw [List.length_drop];omega)] at he
   have:=H l1 hl1
   rw [<- he] at this
   exact this
  ·refine W.req_i (by show _/\_;omega) (W.run_if (fun c2=>W.req_i (by omega) (W.req_i (by show _/\_;omega) (W.req_i (by show _/\_;omega) (W.bd (clone_run (by omega) (W.req_i (by omega) ?_)))))) fun c2=>by omega)
   have jl:j<eqs.length:=by omega
   have ej:gd eqs j=eqs[j]:=gd_lt jl
   have dj:eqs.drop j=eqs[j] ::eqs.drop (j+1):=List.drop_eq_getElem_cons jl
   have sub1:(ch ++ [gd eqs j]).Sublist (eqs.take (j+1)):=by
    rw [List.take_add_one,List.getElem?_eq_getElem jl,ej]
    exact (hch.trans (List.take_sublist_take_left hij)).append (List.Sublist.refl _)
   refine W.bd (hrec _ _ (by show (((nd+1:Nat):Int) - 1).toNat<((nd+1:Nat):Int).toNat;omega) ⟨j+1,nd,l1,by simp,by show ((nd+1:Nat):Int) - 1=_;omega,by omega,by omega,rfl,rfl,hl1,sub1,ho1,fun l' hl'=>?_⟩)
   refine W.req_i (by show _/\_;omega) (hgo _ ⟨j+1,by simp,by omega,by omega,hl',ho1.fold fun x hx=>?_,?_⟩ (by simp;omega))
   ·obtain ⟨r,hr,rfl⟩:=List.mem_map.1 hx
    have:=sub1.append (mem_sbs.1 hr).1
    rwa [List.take_append_drop] at this
   ·rw [<- he,dj]
    conv=>rhs;unfold sbs
    rw [List.map_append,List.foldl_append,List.map_map]
    show List.foldl (stq (Tst d.M)) (List.foldl (stq (Tst d.M)) out1 (List.map (fun x=>(ch ++ [gd eqs j]) ++ x) (sbs (List.drop (j+1) eqs) nd))) _=_
    have:List.map (fun x=>(ch ++ [gd eqs j]) ++ x) (sbs (List.drop (j+1) eqs) nd)=List.map ((fun x=>ch ++ x) ∘ fun x=>eqs[j] ::x) (sbs (List.drop (j+1) eqs) nd):=List.map_congr_left fun x _=>by simp [ej]
    rw [this]
end Go.Proofs.Ytbjnmmgnonldnaa.E
namespace Go.Proofs.Ytbjnmmgnonldnaa.E
open Go Go.RowKit
theorem minimal_run {d:api_Diag} {l:List (A10_bool×Bool)} {eqs:List Int} {Q:List (List Int)×List (A10_bool×Bool)->Prop} (hv:IncOk d.M) (hr:d.M.Rows<=10) (hl:AskOk d.M l) (hs:Se d.M.Rows eqs) (H:∀ l',Q (lst d.M eqs,l')):(fault_tester_minimal.f ⟨d,l⟩ eqs).run Q:=by
 have s10:Se 10 eqs:=⟨hs.so,fun x hx=>by have:=hs.lt x hx;omega⟩
 have el:eqs.length<=10:=s10.len (N:=10)
 unfold fault_tester_minimal.f
 refine W.loop_c (fun s:List (A10_bool×Bool)×List (List Int)×Int=>∃ n:Nat,s.2.2=(n+1:Nat)/\n<=eqs.length/\AskOk d.M s.1/\s.2.1=((List.range n).flatMap fun n=>sbs eqs (n+1)).foldl (stq (Tst d.M)) []) (fun s=>eqs.length+1 - s.2.2.toNat) ⟨0,rfl,Nat.zero_le _,hl,rfl⟩ ?_
 rintro ⟨l1,_,_⟩ P ⟨n,rfl,hn,hl1,rfl⟩ hgo hbrk hout
 simp only at hl1 hgo hbrk |-
 unfold fault_tester_minimal.l1
 refine W.run_if (fun c=>?_) fun c=>hbrk _ ?_
 ·have ok:OutOk eqs (((List.range n).flatMap fun n=>sbs eqs (n+1)).foldl (stq (Tst d.M)) []):=OutOk.fold ⟨List.Pairwise.nil,fun o h=>by cases h⟩ fun c hc=>by
   obtain ⟨k,_,hk⟩:=List.mem_flatMap.1 hc
   exact (mem_sbs.1 hk).1
  refine W.bd (find_run hv hr hs (a:=((0:Int),((n+1:Nat):Int),[],_,⟨d,l1⟩,eqs)) ⟨0,n+1,l1,rfl,rfl,by omega,Nat.zero_le _,rfl,rfl,hl1,List.nil_sublist _,ok,fun l' hl'=>W.req_i (by show _/\_;omega) (hgo _ ⟨n+1,by simp,by omega,hl',?_⟩ (by simp;omega))⟩)
  rw [List.range_succ,List.flatMap_append,List.foldl_append]
  show List.foldl (stq (Tst d.M)) _ (List.map (fun x=>[] ++ x) (sbs (eqs.drop 0) (n+1)))=_
  simp
 ·obtain rfl:n=eqs.length:=by omega
  unfold fault_tester_minimal.j1
  exact H l1
open Classical in
noncomputable def tsV (d:api_Diag) (k e:Int):List (List Int)×Bool×Int:=
 if e≠0 then ([],false,e) else if k<1\/200<k then ([],false,1) else if k<((lst d.M ((List.range d.M.Rows.toNat).map fun (i:Nat)=>(i:Int))).length:Int) then ((lst d.M ((List.range d.M.Rows.toNat).map fun (i:Nat)=>(i:Int))).take k.toNat,true,0) else (lst d.M ((List.range d.M.Rows.toNat).map fun (i:Nat)=>(i:Int)),false,0)
theorem se_all {m:api_Incidence} (hv:IncOk m):Se m.Rows ((List.range m.Rows.toNat).map fun (i:Nat)=>(i:Int)):=by
 have:=Se.all m.Rows.toNat
 have r0:=hv.r0
 rwa [show ((m.Rows.toNat:Nat):Int)=m.Rows by omega] at this
theorem DiagR.ok {d:api_Diag} {e:Int} (h:DiagR d e) (he:e=0):DiagOk d:=by
 rcases h with ⟨_,b⟩ | ⟨a,_⟩ | ⟨a,_⟩ | ⟨a,_⟩
 ·exact b
 all_goals omega
theorem fault_Tests_run {d:api_Diag} {k:Int} {Q:List (List Int)×Bool×Int->Prop} (H:∀ e,DiagR d e->Q (tsV d k e)):(fault_Tests.f d k).run Q:=by
 unfold fault_Tests.f
 refine W.bd (fault_Validate_run fun e he=>?_)
 have H:=H e he
 unfold tsV at H
 refine W.run_if (fun c=>by rw [if_pos c] at H;exact H) fun c=>?_
 rw [if_neg c] at H
 refine W.run_if (fun c2=>by rw [if_pos (.inl c2)] at H;exact H) fun c2=>W.run_if (fun c3=>by rw [if_pos (.inr c3)] at H;exact H) fun c3=>?_
 rw [if_neg (by omega)] at H
 have hk:=he.ok (by omega)
 have r0:=hk.m.r0
 have r1:=hk.r
 have sa:=se_all hk.m
 obtain ⟨R,hR⟩:∃ R:Nat,d.M.Rows=R:=⟨d.M.Rows.toNat,by omega⟩
 unfold fault_made.f
 refine W.ret_bd ?_
 rw [hR,Int.toNat_natCast] at H
 simp only [hR]
 refine W.bd (fault_all_run (by omega) ?_)
 refine W.bd (minimal_run hk.m hk.r AskOk.nil (by rwa [hR,Int.toNat_natCast,<- hR] at sa) fun l'=>?_)
 refine W.run_if (fun c4=>W.req_i ⟨by omega,Int.le_refl _,by simp only at c4 |-;omega⟩ ?_) fun c4=>?_
 ·rw [if_pos c4] at H;exact H
 ·rw [if_neg c4] at H;exact H
open Classical in
open Classical in
theorem fault_Redundant_run {d:api_Diag} {Q:List Int×Int×Int->Prop} (hk:DiagOk d) (H:∀ o:List Int×Int,o=overV (pick d.M ((List.range d.M.Rows.toNat).map fun (i:Nat)=>(i:Int))) d.M.Cols.toNat ((List.range d.M.Rows.toNat).map fun (i:Nat)=>(i:Int))->Q (o.1,(o.1.length:Int) - o.2,0)):(fault_Redundant.f d).run Q:=by
 unfold fault_Redundant.f
 refine W.bd (fault_Validate_run fun e he=>W.run_if (fun c=>absurd (he.uniq (.inl ⟨rfl,hk⟩)) c) fun c=>?_)
 have r0:=hk.m.r0
 have c0:=hk.m.c0
 have c1:=hk.m.c1
 have r1:=hk.r
 have sa:=se_all hk.m
 have hl:=hk.m.len
 obtain ⟨R,hR⟩:∃ R:Nat,d.M.Rows=R:=⟨d.M.Rows.toNat,by omega⟩
 obtain ⟨C,hC⟩:∃ C:Nat,d.M.Cols=C:=⟨d.M.Cols.toNat,by omega⟩
 rw [hR,hC,Int.toNat_natCast,Int.toNat_natCast] at H
 rw [hR,Int.toNat_natCast] at sa
 rw [hR]
 refine W.bd (fault_all_run (by omega) (W.bd (fault_over_run hC (by omega) (by simp;omega) (fun i hi=>?_) (pick_rws hk.m hC (by rwa [hR])) ?_)))
 ·have:=sa.lt i hi
  omega
 ·have:=H _ rfl
  refine W.req_i ?_ this
  unfold overV
  have a1:=List.length_filter_le (fun t=>decide (Od (pick d.M ((List.range R).map fun (i:Nat)=>(i:Int))) t)) (List.range (pick d.M ((List.range R).map fun (i:Nat)=>(i:Int))).length)
  have a2:=List.length_filter_le (fun k=>decide (Oc (pick d.M ((List.range R).map fun (i:Nat)=>(i:Int))) k)) (List.range C)
  rw [List.length_range] at a1 a2
  rw [pick_len,List.length_map,List.length_range] at a1
  show _/\_
  simp only [List.length_map,pick_len,List.length_range] at a1 |-
  omega
end Go.Proofs.Ytbjnmmgnonldnaa.E
