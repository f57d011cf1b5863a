/- Joined. -/
import Derived.Test.YtbjnmmgnonldnaaKF18
set_option linter.unusedVariables false
set_option linter.unusedSimpArgs false
namespace Go.Proofs.Ytbjnmmgnonldnaa.E
open Go Go.RowKit
open Classical in
noncomputable def teV (d:api_Diag) (l:List (List Int)) (e:Int):Int:=if e≠0 then e else if 200<(l.length:Int) then 3 else if ∀ i,i<l.length->Asc (gd l i) d.M.Rows then 0 else 1
theorem fault_tests_run {d:api_Diag} {l:List (List Int)} {Q:Int->Prop} (H:∀ e,DiagR d e->Q (teV d l e)):(fault_tests.f d l).run Q:=by
 unfold fault_tests.f
 refine W.bd (fault_Validate_run fun e he=>?_)
 have H:=H e he
 unfold teV at H
 refine W.run_if (fun c=>by rw [if_pos c] at H;exact H) fun c=>?_
 rw [if_neg c] at H
 refine W.run_if (fun c2=>by rw [if_pos c2] at H;exact H) fun c2=>?_
 rw [if_neg c2] at H
 refine W.loop_c (fun p=>∃ i:Nat,p=i/\i<=l.length/\∀ j,j<i->Asc (gd l j) d.M.Rows) (fun p=>l.length - p.toNat) ⟨0,rfl,Nat.zero_le _,fun j hj=>by omega⟩ ?_
 rintro _ P ⟨i,rfl,hi,hr⟩ hgo hbrk hout
 unfold fault_tests.l1
 simp only [gi_gd]
 refine W.run_if (fun c3=>W.req_i (by omega) (W.bd (fault_isSet_run (fun g=>W.run_if (fun _=>hgo _ ⟨i+1,by simp,by omega,fun j hj=>?_⟩ (by simp;omega)) fun c=>absurd rfl c) fun g=>W.run_if (fun c=>by cases c) fun _=>hout _ ?_))) fun c3=>hbrk _ ?_
 ·by_cases e:j=i
  ·rw [e];exact g
  ·exact hr j (by omega)
 ·rw [if_neg fun h=>g (h i (by omega))] at H;exact H
 ·obtain rfl:i=l.length:=by omega
  unfold fault_tests.j1
  rw [if_pos hr] at H;exact H
open Classical in
noncomputable def mts (f t:List Int):Bool:=decide (∃ x,x ∈ f/\x ∈ t)
noncomputable def sgL (d:api_Diag) (l:List (List Int)):List (List Bool):=d.Faults.map fun f=>l.map fun t=>mts f t
noncomputable def sgV (d:api_Diag) (l:List (List Int)) (e:Int):List (List Bool)×Int:=if teV d l e≠0 then ([],teV d l e) else (sgL d l,0)
theorem mts_of {f t:List Int} {b:Bool} (h:b=true ↔ ∃ x,x ∈ f/\x ∈ t):b=mts f t:=by
 classical
 unfold mts;rw [Bool.eq_iff_iff,h,decide_eq_true_iff]
theorem teV_ok {d:api_Diag} {l:List (List Int)} {e:Int} (h:teV d l e=0):e=0/\l.length<=200/\∀ i,i<l.length->Asc (gd l i) d.M.Rows:=by
 unfold teV at h
 split at h
 ·rename_i c;exact absurd h c
 ·rename_i c
  split at h
  ·omega
  ·split at h
   ·rename_i a;exact ⟨by omega,by omega,a⟩
   ·omega
theorem fault_Signature_run {d:api_Diag} {l:List (List Int)} {Q:List (List Bool)×Int->Prop} (H:∀ e,DiagR d e->Q (sgV d l e)):(fault_Signature.f d l).run Q:=by
 unfold fault_Signature.f
 refine W.bd (fault_tests_run fun e he=>?_)
 have H:=H e he
 unfold sgV at H
 refine W.run_if (fun c=>by rw [if_pos c] at H;exact H) fun c=>?_
 rw [if_neg c] at H
 have ok:=teV_ok (Decidable.not_not.1 c)
 have hf:=(he.ok ok.1).f
 refine W.loop_c (fun s:List (List Bool)×Int=>∃ i:Nat,s.2=i/\i<=d.Faults.length/\s.1=(d.Faults.take i).map fun f=>l.map fun t=>mts f t) (fun s=>d.Faults.length - s.2.toNat) ⟨0,rfl,Nat.zero_le _,rfl⟩ ?_
 rintro ⟨_,_⟩ P ⟨i,rfl,hi,rfl⟩ hgo hbrk hout
 simp only at hgo hbrk |-
 unfold fault_Signature.l1
 refine W.run_if (fun c3=>W.req_i (by omega) ?_) fun c3=>hbrk _ ?_
 ·refine W.loop_c (fun s:List Bool×Int=>∃ j:Nat,s.2=j/\j<=l.length/\s.1=(l.take j).map fun t=>mts (gd d.Faults i) t) (fun s=>l.length - s.2.toNat) ⟨0,rfl,Nat.zero_le _,rfl⟩ ?_
  rintro ⟨_,_⟩ P2 ⟨j,rfl,hj,rfl⟩ hgo2 hbrk2 hout2
  simp only at hgo2 hbrk2 |-
  unfold fault_Signature.l2
  simp only [gi_gd]
  have tl:(l.take j).length<=j:=List.length_take_le ..
  refine W.run_if (fun c4=>W.req_i (by omega) (W.bd (acts_run fun b hb=>W.req_i (by rw [List.length_map];omega) (hgo2 _ ⟨j+1,by simp,by omega,?_⟩ (by simp;omega))))) fun c4=>hbrk2 _ ?_
  ·show _ ++ _=_
   rw [map_take_succ (by omega),mts_of hb]
  ·obtain rfl:j=l.length:=by omega
   unfold fault_Signature.j3 fault_Signature.j2
   have t2:(d.Faults.take i).length<=i:=List.length_take_le ..
   refine W.req_i (by rw [List.length_map];omega) (hgo _ ⟨i+1,by simp,by omega,?_⟩ (by simp;omega))
   show _ ++ _=_
   rw [List.take_length,map_take_succ (by omega)]
 ·obtain rfl:i=d.Faults.length:=by omega
  unfold fault_Signature.j1
  rw [List.take_length]
  exact H
theorem gd_row {d:api_Diag} {l:List (List Int)} {i:Nat} (hi:i<d.Faults.length):gd (sgL d l) i=l.map fun t=>mts (gd d.Faults i) t:=gd_map hi
end Go.Proofs.Ytbjnmmgnonldnaa.E
namespace Go.Proofs.Ytbjnmmgnonldnaa.E
open Go Go.RowKit
theorem ref28_Signature_run {d:api_Diag} {l:List (List Int)} {Q:List (List Bool)×Int->Prop} (H:∀ e,DiagR d e->Q (sgV d l e)):(ref28_Signature.f d l).run Q:=by
 classical
 unfold ref28_Signature.f
 refine W.bd (ref28_Validate_run fun e he=>?_)
 have H:=H e he
 unfold sgV teV at H
 refine W.run_if (fun c=>by rw [if_pos c,if_pos c] at H;exact H) fun c=>?_
 rw [if_neg c] at H
 refine W.run_if (fun c2=>by rw [if_pos c2] at H;exact H) fun c2=>?_
 rw [if_neg c2] at H
 have hf:=(he.ok (by omega)).f
 refine W.loop_c (fun p=>∃ i:Nat,p=i/\i<=l.length/\∀ j,j<i->Asc (gd l j) d.M.Rows) (fun p=>l.length - p.toNat) ⟨0,rfl,Nat.zero_le _,fun j hj=>by omega⟩ ?_
 rintro _ P ⟨i,rfl,hi,hr⟩ hgo hbrk hout
 unfold ref28_Signature.l3
 simp only [gi_gd]
 refine W.run_if (fun c3=>W.req_i (by omega) (W.bd (ref28_isSet_run (fun g=>W.run_if (fun _=>hgo _ ⟨i+1,by simp,by omega,fun j hj=>?_⟩ (by simp;omega)) fun c=>absurd rfl c) fun g=>W.run_if (fun c=>by cases c) fun _=>hout _ ?_))) fun c3=>hbrk _ ?_
 ·by_cases e:j=i
  ·rw [e];exact g
  ·exact hr j (by omega)
 ·rw [show (if ∀ i,i<l.length->Asc (gd l i) d.M.Rows then (0:Int) else 1)=1 from if_neg fun h=>g (h i (by omega)),if_pos (by decide)] at H;exact H
 obtain rfl:i=l.length:=by omega
 clear hgo hbrk hout
 unfold ref28_Signature.j1
 rw [show (if ∀ i,i<l.length->Asc (gd l i) d.M.Rows then (0:Int) else 1)=0 from if_pos hr,if_neg (by decide)] at H
 refine W.loop_c (fun s:List (List Bool)×Int=>∃ i:Nat,s.2=i/\i<=d.Faults.length/\s.1=(d.Faults.take i).map fun f=>l.map fun t=>mts f t) (fun s=>d.Faults.length - s.2.toNat) ⟨0,rfl,Nat.zero_le _,rfl⟩ ?_
 rintro ⟨_,_⟩ P ⟨i,rfl,hi,rfl⟩ hgo hbrk hout
 simp only at hgo hbrk |-
 unfold ref28_Signature.l1
 refine W.run_if (fun c3=>?_) fun c3=>hbrk _ ?_
 ·refine W.loop_c (fun s:List Bool×Int=>∃ j:Nat,s.2=j/\j<=l.length/\s.1.length=l.length/\∀ t,t<j->gd s.1 t=mts (gd d.Faults i) (gd l t)) (fun s=>l.length - s.2.toNat) ⟨0,rfl,Nat.zero_le _,by simp,fun t ht=>by omega⟩ ?_
  rintro ⟨row,_⟩ P2 ⟨j,rfl,hj,hl,hg⟩ hgo2 hbrk2 hout2
  simp only at hl hg hgo2 hbrk2 |-
  unfold ref28_Signature.l2
  simp only [gi_gd]
  refine W.run_if (fun c4=>W.req_i (by omega) (W.req_i (by omega) (W.bd (meets_run fun b hb=>W.req_i (by omega) (hgo2 _ ⟨j+1,by simp,by omega,by simpa using hl,fun t ht=>?_⟩ (by simp;omega)))))) fun c4=>hbrk2 _ ?_
  ·simp only [gd_set,Int.toNat_natCast]
   by_cases e:j=t
   ·rw [if_pos ⟨e,by omega⟩,<- e,mts_of hb]
   ·rw [if_neg fun g=>e g.1];exact hg t (by omega)
  ·obtain rfl:j=l.length:=by omega
   unfold ref28_Signature.j4 ref28_Signature.j3
   have t2:(d.Faults.take i).length<=i:=List.length_take_le ..
   refine W.req_i (by rw [List.length_map];omega) (hgo _ ⟨i+1,by simp,by omega,?_⟩ (by simp;omega))
   show _ ++ _=_
   rw [map_take_succ (by omega)]
   congr 2
   refine list_gd_ext (by rw [hl,List.length_map]) fun k hk=>?_
   have hk:k<row.length:=hk
   rw [hg k (by omega),gd_map (by omega)]
 ·obtain rfl:i=d.Faults.length:=by omega
  unfold ref28_Signature.j2
  rw [List.take_length]
  exact H
def Xpl (d:api_Diag) (l:List (List Int)) (b:List Bool) (s:List Int):Prop:=∀ i,i<l.length->gd b i=true->∃ f,f ∈ s/\mts (gi d.Faults f) (gd l i)=true
theorem Xpl.mono {d:api_Diag} {l:List (List Int)} {b:List Bool} {s s':List Int} (h:Xpl d l b s) (hs:s ⊆ s'):Xpl d l b s':=fun i hi hb=>by
 obtain ⟨f,h1,h2⟩:=h i hi hb
 exact ⟨f,hs h1,h2⟩
theorem p11_run {d:api_Diag} {t:List Int} {f:Int} {Q:Bool->Prop} (hf:0<=f/\f<d.Faults.length) (H:Q (mts (gi d.Faults f) t)):(fault_Possible_1_1.f f d t).run Q:=by
 unfold fault_Possible_1_1.f
 refine W.req_i hf (W.bd (acts_run fun b hb=>?_))
 show Q b
 rw [mts_of hb];exact H
theorem ifn2_run {d:api_Diag} {s t:List Int} {Q:Int->Prop} (hs:∀ f,f ∈ s->0<=f/\f<d.Faults.length) (H1:∀ i:Nat,i<s.length->mts (gi d.Faults (gd s i)) t=true->Q i) (H0:(∀ f,f ∈ s->mts (gi d.Faults f) t=false)->Q (-1)):(slices_IndexFunc_int_v2.f s d t).run Q:=by
 unfold slices_IndexFunc_int_v2.f
 refine W.loop_c (fun p=>∃ i:Nat,p=i/\i<=s.length/\∀ j,j<i->mts (gi d.Faults (gd s j)) t=false) (fun p=>s.length - p.toNat) ⟨0,rfl,Nat.zero_le _,fun j hj=>by omega⟩ ?_
 rintro _ P ⟨i,rfl,hi,hr⟩ hgo hbrk hout
 unfold slices_IndexFunc_int_v2.l1
 simp only [gi_gd]
 refine W.run_if (fun c=>W.req_i (by omega) (W.bd (p11_run (hs _ (gd_mem (by omega))) (W.run_if (fun c2=>hout _ (H1 i (by omega) c2)) fun c2=>hgo _ ⟨i+1,by simp,by omega,fun j hj=>?_⟩ (by simp;omega))))) fun c=>hbrk _ ?_
 ·by_cases e:j=i
  ·rw [e];exact Bool.eq_false_iff.2 c2
  ·exact hr j (by omega)
 ·obtain rfl:i=s.length:=by omega
  unfold slices_IndexFunc_int_v2.j1
  refine H0 fun f hf=>?_
  obtain ⟨j,hj,rfl⟩:=List.mem_iff_getElem.1 hf
  have:=hr j hj
  rwa [gd_lt hj] at this
theorem p1_run {d:api_Diag} {l:List (List Int)} {b:List Bool} {s:List Int} {Q:Bool->Prop} (hb:b.length=l.length) (hs:∀ f,f ∈ s->0<=f/\f<d.Faults.length) (H:∀ r,(r=true ↔ Xpl d l b s)->Q r):(fault_Possible_1.f s l b d).run Q:=by
 unfold fault_Possible_1.f
 refine W.loop_c (fun p=>∃ i:Nat,p=i/\i<=l.length/\∀ j,j<i->gd b j=true->∃ f,f ∈ s/\mts (gi d.Faults f) (gd l j)=true) (fun p=>l.length - p.toNat) ⟨0,rfl,Nat.zero_le _,fun j hj=>by omega⟩ ?_
 rintro _ P ⟨i,rfl,hi,hr⟩ hgo hbrk hout
 unfold fault_Possible_1.l1 slices_ContainsFunc_int_v1.f
 simp only [gi_gd]
 have next:(gd b i=true->∃ f,f ∈ s/\mts (gi d.Faults f) (gd l i)=true)->i<l.length->P (.go ((i:Int)+1)):=fun h h2=>hgo _ ⟨i+1,by simp,by omega,fun j hj=>by
  by_cases e:j=i
  ·rw [e];exact h
  ·exact hr j (by omega)⟩ (by simp;omega)
 refine W.run_if (fun c=>W.req_i (by omega) (W.req_i (by omega) (W.run_if (fun c2=>W.bd (W.bd (ifn2_run hs (fun j h1 h2=>?_) fun h=>?_))) fun c2=>next (fun g=>absurd g c2) (by omega)))) fun c=>hbrk _ ?_
 ·rw [W.ret_r]
  exact W.run_if (fun _=>next (fun _=>⟨_,gd_mem h1,h2⟩) (by omega)) fun c3=>absurd (decide_eq_true (by omega)) c3
 ·rw [W.ret_r]
  refine W.run_if (fun c3=>by simp at c3) fun c3=>hout _ (H _ ⟨fun g=>(by cases g),fun g=>?_⟩)
  obtain ⟨f,f1,f2⟩:=g i (by omega) c2
  rw [h f f1] at f2;cases f2
 ·obtain rfl:i=l.length:=by omega
  unfold fault_Possible_1.j1
  exact H _ ⟨fun _=>hr,fun _=>rfl⟩
abbrev PosA:=Int×Int×List Int×List (List Int)×List (List Int)×List Bool×api_Diag×api_Diag
def PosS (d:api_Diag) (l:List (List Int)) (b:List Bool) (a:PosA) (Q:List (List Int)->Prop):Prop:=
 ∃ i need:Nat,a.1=i/\a.2.1=need/\need<=10/\i<=d.Faults.length/\a.2.2.2.2=(l,b,d,d)/\a.2.2.1.Sublist (ci (List.range i))/\OutOk (ci (List.range d.Faults.length)) a.2.2.2.1/\Q (((sbs ((ci (List.range d.Faults.length)).drop i) need).map (a.2.2.1 ++ ·)).foldl (stq (Xpl d l b)) a.2.2.2.1)
theorem ci_rng {n i:Nat} (h:i<=n):(ci (List.range n)).take i=ci (List.range i):=by
 unfold ci
 rw [<- List.map_take,List.take_range,Nat.min_eq_left h]
theorem ci_get {n j:Nat} (h:j<(ci (List.range n)).length):(ci (List.range n))[j] =(j:Int):=by
 have h2:j<((List.range n).map fun (i:Nat)=>(i:Int)).length:=h
 exact (show ((List.range n).map fun (i:Nat)=>(i:Int))[j] =(j:Int) by rw [List.getElem_map,List.getElem_range])
theorem ci_rl {n:Nat} :(ci (List.range n)).length=n:=by rw [ci_len,List.length_range]
theorem pos_run {d:api_Diag} {l:List (List Int)} {b:List Bool} (hb:b.length=l.length) (hf:d.Faults.length<=8) {a:PosA} {Q:List (List Int)->Prop} (hS:PosS d l b a Q):(fault_Possible_2.f a.1 a.2.1 a.2.2.1 a.2.2.2.1 a.2.2.2.2.1 a.2.2.2.2.2.1 a.2.2.2.2.2.2.1 a.2.2.2.2.2.2.2).run Q:=by
 have sa:Se d.Faults.length (ci (List.range d.Faults.length)):=Se.all _
 have s10:Se 10 (ci (List.range d.Faults.length)):=⟨sa.so,fun x hx=>by have:=sa.lt x hx;omega⟩
 unfold fault_Possible_2.f
 refine W.fix_run (fun a=>a.2.1.toNat) (S:=PosS d l b) ?_ _ Q hS
 clear hS
 rintro rec ⟨x0,x1,ch,out,x4,x5,x6,x7⟩ Q hrec ⟨i,need,hx0,hx1,hn10,hi,hx4,hch,hout0,H⟩
 simp only at hx0 hx1 hx4 hch hout0 H hrec |-
 subst hx0 hx1
 obtain ⟨rfl,rfl,rfl,rfl⟩:l=x4/\b=x5/\d=x6/\d=x7:=by simp only [Prod.mk.injEq] at hx4;exact ⟨hx4.1.symm,hx4.2.1.symm,hx4.2.2.1.symm,hx4.2.2.2.symm⟩
 have chs:ch.Sublist (ci (List.range d.Faults.length)):=hch.trans (by rw [<- ci_rng hi];exact List.take_sublist ..)
 have chl:=chs.length_le
 rw [ci_rl] at chl
 have ol:=hout0.len s10
 have cm:∀ f,f ∈ ch->0<=f/\f<d.Faults.length:=fun f hf=>sa.lt f (chs.subset hf)
 unfold fault_Possible_2.b
 refine W.loop_c (fun p=>∃ t:Nat,p=t/\t<=out.length/\∀ j,j<t->¬ gd out j ⊆ ch) (fun p=>out.length - p.toNat) ⟨0,rfl,Nat.zero_le _,fun j hj=>by omega⟩ ?_
 rintro _ P ⟨t,rfl,ht,hg⟩ hgo hbrk hout
 unfold fault_Possible_2.l2
 simp only [gi_gd]
 refine W.run_if (fun c=>W.req_i (by omega) (W.bd (within_run (fun h=>W.run_if (fun _=>hout _ ?_) fun c=>absurd rfl c) fun h=>W.run_if (fun c=>by cases c) fun _=>hgo _ ⟨t+1,by simp,by omega,fun j hj=>?_⟩ (by simp;omega)))) fun c=>hbrk _ ?_
 ·show Q _
  have:=H
  rwa [stq_prune ⟨_,gd_mem (show t<out.length by omega),h⟩] at this
 ·by_cases e:j=t
  ·rw [e];exact h
  ·exact hg j (by omega)
 obtain rfl:t=out.length:=by omega
 have none_: ¬ ∃ o,o ∈ out/\o ⊆ ch:=fun ⟨o,h1,h2⟩=>by
  obtain ⟨j,hj,rfl⟩:=List.mem_iff_getElem.1 h1
  exact hg j hj (by rwa [gd_lt hj])
 clear hgo hbrk hout hg
 unfold fault_Possible_2.j1
 refine W.run_if (fun c=>?_) fun c=>?_
 ·obtain rfl:need=0:=by omega
  unfold sbs at H
  simp only [List.map_cons,List.map_nil,List.foldl_cons,List.foldl_nil,List.append_nil] at H
  refine W.bd (p1_run hb cm fun r hr=>W.run_if (fun c2=>?_) fun c2=>?_)
  ·refine W.bd (clone_run (by omega) (W.req_i (by omega) ?_))
   have:=H
   unfold stq at this
   rwa [if_neg fun g=>g.elim none_ fun k=>k (hr.1 c2)] at this
  ·have:=H
   unfold stq at this
   rwa [if_pos (.inr fun k=>c2 (hr.2 k))] at this
 ·obtain ⟨nd,rfl⟩:∃ nd,need=nd+1:=⟨need - 1,by omega⟩
  refine W.loop_c (fun s:List (List Int)×Int=>∃ j:Nat,s.2=j/\i<=j/\j<=d.Faults.length/\OutOk (ci (List.range d.Faults.length)) s.1/\((sbs ((ci (List.range d.Faults.length)).drop j) (nd+1)).map (ch ++ ·)).foldl (stq (Xpl d l b)) s.1=((sbs ((ci (List.range d.Faults.length)).drop i) (nd+1)).map (ch ++ ·)).foldl (stq (Xpl d l b)) out) (fun s=>d.Faults.length - s.2.toNat) ⟨i,rfl,Nat.le_refl _,hi,hout0,rfl⟩ ?_
  rintro ⟨out1,_⟩ P ⟨j,rfl,hij,hj,ho1,he⟩ hgo hbrk hout
  simp only at ho1 he hgo hbrk |-
  unfold fault_Possible_2.l1 fault_Possible_2.j3
  rcases Nat.lt_or_ge d.Faults.length (j+(nd+1)) with big | big
  ·refine W.req_i (by show _/\_;omega) (W.run_if (fun c=>by omega) fun c=>hbrk _ ?_)
   unfold fault_Possible_2.j2
   rw [sbs_len (by rw [List.length_drop,ci_rl];omega)] at he
   rw [<- he] at H
   exact H
  ·refine W.req_i (by show _/\_;omega) (W.run_if (fun c2=>W.req_i (by show _/\_;omega) (W.req_i (by show _/\_;omega) (W.bd (clone_run (by omega) (W.req_i (by omega) ?_))))) fun c2=>by omega)
   have jl:j<(ci (List.range d.Faults.length)).length:=by rw [ci_rl];omega
   have dj:(ci (List.range d.Faults.length)).drop j=(j:Int) ::(ci (List.range d.Faults.length)).drop (j+1):=by rw [List.drop_eq_getElem_cons jl,ci_get]
   have sub1:(ch ++ [(j:Int)]).Sublist (ci (List.range (j+1))):=by
    rw [<- ci_rng (show j+1<=d.Faults.length by omega),List.take_add_one,List.getElem?_eq_getElem jl,ci_get]
    refine (hch.trans ?_).append (List.Sublist.refl _)
    rw [<- ci_rng hi]
    exact List.take_sublist_take_left hij
   refine W.bd (hrec _ _ (by show (((nd+1:Nat):Int) - 1).toNat<((nd+1:Nat):Int).toNat;omega) ⟨j+1,nd,by simp,by show ((nd+1:Nat):Int) - 1=_;omega,by omega,by omega,rfl,sub1,ho1,?_⟩)
   refine W.req_i (by show _/\_;omega) (hgo _ ⟨j+1,by simp,by omega,by omega,ho1.fold fun x hx=>?_,?_⟩ (by simp;omega))
   ·obtain ⟨r,hr,rfl⟩:=List.mem_map.1 hx
    have:=sub1.append (mem_sbs.1 hr).1
    rwa [<- ci_rng (show j+1<=d.Faults.length by omega),List.take_append_drop] at this
   ·rw [<- he,dj]
    conv=>rhs;unfold sbs
    rw [List.map_append,List.foldl_append,List.map_map]
    show List.foldl _ (List.foldl _ out1 (List.map (fun x=>(ch ++ [(j:Int)]) ++ x) (sbs (List.drop (j+1) _) nd))) _=_
    have:List.map (fun x=>(ch ++ [(j:Int)]) ++ x) (sbs (List.drop (j+1) (ci (List.range d.Faults.length))) nd)=List.map ((fun x=>ch ++ x) ∘ fun x=>(j:Int) ::x) (sbs (List.drop (j+1) (ci (List.range d.Faults.length))) nd):=List.map_congr_left fun x _=>by simp
    rw [this]
def upto (l:List Int) (k:Nat):List (List Int):=(List.range (k+1)).flatMap fun n=>sbs l n
theorem mem_upto {l s:List Int} {k:Nat} :s ∈ upto l k ↔ s.Sublist l/\s.length<=k:=by
 unfold upto
 rw [List.mem_flatMap]
 constructor
 ·rintro ⟨n,hn,h⟩
  obtain ⟨a,b⟩:=mem_sbs.1 h
  have:=List.mem_range.1 hn
  exact ⟨a,by omega⟩
 ·rintro ⟨a,b⟩
  exact ⟨s.length,List.mem_range.2 (by omega),mem_sbs.2 ⟨a,rfl⟩⟩
theorem upto_pw {l:List Int} {k:Nat} (h:Se 10 l):(upto l k).Pairwise Lt:=by
 unfold upto
 refine List.pairwise_flatMap.2 ⟨fun n _=>sbs_pw h,List.pairwise_lt_range.imp fun {a b} hab x hx y hy=>?_⟩
 obtain ⟨x1,x2⟩:=mem_sbs.1 hx
 obtain ⟨y1,y2⟩:=mem_sbs.1 hy
 exact vl_len ((h.sub x1).d10 (by omega)) ((h.sub y1).d10 (by omega)) (by omega)
noncomputable def psL (d:api_Diag) (l:List (List Int)) (b:List Bool) (k:Nat):List (List Int):=(upto (ci (List.range d.Faults.length)) k).foldl (stq (Xpl d l b)) []
theorem psL_kpt {d:api_Diag} {l:List (List Int)} {b:List Bool} {k:Nat} (hf:d.Faults.length<=8):Kpt (Xpl d l b) (upto (ci (List.range d.Faults.length)) k) (psL d l b k):=by
 have sa:Se d.Faults.length (ci (List.range d.Faults.length)):=Se.all _
 have h:Se 10 (ci (List.range d.Faults.length)):=⟨sa.so,fun x hx=>by have:=sa.lt x hx;omega⟩
 have:=Kpt.fold (P:=Xpl d l b) (A:=[]) (B:=upto (ci (List.range d.Faults.length)) k) Kpt.nil ?_
 ·rw [List.nil_append] at this;exact this
 ·rw [List.nil_append]
  refine (upto_pw h).imp_of_mem fun {x y} hx hy hxy hs=>?_
  have sx:=h.sub (mem_upto.1 hx).1
  have sy:=h.sub (mem_upto.1 hy).1
  have sl:=sub_of_subset sy.so sx.so hs
  rcases Nat.lt_or_ge y.length x.length with g | g
  ·have:=vl_len (sy.d10 (by omega)) (sx.d10 (by omega)) g
   unfold Lt at hxy;omega
  ·have:=sl.eq_of_length_le g
   rw [this] at hxy
   unfold Lt at hxy;omega
open Classical in
noncomputable def psV (d:api_Diag) (l:List (List Int)) (b:List Bool) (k e:Int):List (List Int)×Int:=if teV d l e≠0 then ([],teV d l e) else if (b.length:Int)≠l.length then ([],8) else if k<1\/4<k then ([],1) else (psL d l b k.toNat,0)
theorem fault_Possible_run {d:api_Diag} {l:List (List Int)} {b:List Bool} {k:Int} {Q:List (List Int)×Int->Prop} (H:∀ e,DiagR d e->Q (psV d l b k e)):(fault_Possible.f d l b k).run Q:=by
 unfold fault_Possible.f
 refine W.bd (fault_tests_run fun e he=>?_)
 have H:=H e he
 unfold psV at H
 refine W.run_if (fun c=>by rw [if_pos c] at H;exact H) fun c=>?_
 rw [if_neg c] at H
 refine W.run_if (fun c2=>by rw [if_pos c2] at H;exact H) fun c2=>?_
 rw [if_neg c2] at H
 refine W.run_if (fun c3=>by rw [if_pos (.inl c3)] at H;exact H) fun c3=>W.run_if (fun c4=>by rw [if_pos (.inr c4)] at H;exact H) fun c4=>?_
 rw [if_neg (by omega)] at H
 have ok:=teV_ok (Decidable.not_not.1 c)
 have hf:=(he.ok ok.1).f
 obtain ⟨K,hK⟩:∃ K:Nat,k=K:=⟨k.toNat,by omega⟩
 subst hK
 rw [Int.toNat_natCast] at H
 refine W.loop_c (fun s:List (List Int)×Int=>∃ n:Nat,s.2=n/\n<=K+1/\s.1=((List.range n).flatMap fun n=>sbs (ci (List.range d.Faults.length)) n).foldl (stq (Xpl d l b)) []) (fun s=>K+1 - s.2.toNat) ⟨0,rfl,Nat.zero_le _,rfl⟩ ?_
 rintro ⟨_,_⟩ P ⟨n,rfl,hn,rfl⟩ hgo hbrk hout
 simp only at hgo hbrk |-
 unfold fault_Possible.l1
 refine W.run_if (fun c5=>?_) fun c5=>hbrk _ ?_
 ·have ok:OutOk (ci (List.range d.Faults.length)) (((List.range n).flatMap fun n=>sbs (ci (List.range d.Faults.length)) n).foldl (stq (Xpl d l b)) []):=OutOk.fold ⟨List.Pairwise.nil,fun o h=>by cases h⟩ fun c hc=>by
   obtain ⟨k,_,hk⟩:=List.mem_flatMap.1 hc
   exact (mem_sbs.1 hk).1
  refine W.bd (pos_run (by omega) hf (a:=((0:Int),(n:Int),[],_,l,b,d,d)) ⟨0,n,rfl,rfl,by omega,Nat.zero_le _,rfl,List.nil_sublist _,ok,W.req_i (by show _/\_;omega) (hgo _ ⟨n+1,by simp,by omega,?_⟩ (by simp;omega))⟩)
  rw [List.range_succ,List.flatMap_append,List.foldl_append]
  show List.foldl _ _ (List.map (fun x=>[] ++ x) (sbs ((ci (List.range d.Faults.length)).drop 0) n))=_
  simp
 ·obtain rfl:n=K+1:=by omega
  unfold fault_Possible.j1
  exact H
end Go.Proofs.Ytbjnmmgnonldnaa.E
namespace Go.Proofs.Ytbjnmmgnonldnaa.E
open Go Go.RowKit
theorem iandn_nat {s f:Nat} (hs:s<2 ^ 62) (hf:f<60):∃ t:Nat,iandn .i64 (s:Int) ((2 ^ f:Nat):Int)=t/\t<2 ^ 62/\∀ i,t.testBit i=(s.testBit i && decide (i≠f)):=by
 have e:IntKind.i64.bits=64:=rfl
 have hp:(2:Nat) ^ f<2 ^ 60:=Nat.pow_lt_pow_right (by omega) hf
 have b1:∀ i,(BitVec.ofInt IntKind.i64.bits (s:Int)).getLsbD i=s.testBit i:=fun i=>by
  rw [<- BitVec.testBit_toNat,bv_nat (by omega) (by rw [e];omega),Int.toNat_natCast]
 have b2:∀ i,(BitVec.ofInt IntKind.i64.bits ((2 ^ f:Nat):Int)).getLsbD i=decide (f=i):=fun i=>by
  rw [<- BitVec.testBit_toNat,bv_nat (Int.natCast_nonneg _) (by rw [e];omega),Int.toNat_natCast,Nat.testBit_two_pow]
 obtain ⟨t,ht⟩:∃ t,(BitVec.ofInt IntKind.i64.bits (s:Int) &&& ~~~BitVec.ofInt IntKind.i64.bits ((2 ^ f:Nat):Int)).toNat=t:=⟨_,rfl⟩
 have hb:∀ i,t.testBit i=(s.testBit i && decide (i≠f)):=fun i=>by
  rw [<- ht,BitVec.testBit_toNat,BitVec.getLsbD_and,BitVec.getLsbD_not,b1,b2]
  rcases Nat.lt_or_ge i 62 with g | g
  ·have:i<IntKind.i64.bits:=by rw [e];omega
   by_cases c:f=i
   ·simp [c]
   ·have c2:i≠f:=fun h=>c h.symm
    simp [c,c2,this]
  ·rw [Nat.testBit_lt_two_pow (Nat.lt_of_lt_of_le hs (Nat.pow_le_pow_right (by omega) g))];simp
 have tl:t<2 ^ 62:=Nat.lt_pow_two_of_testBit _ fun i hi=>by
  rw [hb,Nat.testBit_lt_two_pow (Nat.lt_of_lt_of_le hs (Nat.pow_le_pow_right (by omega) hi))];rfl
 refine ⟨t,?_,tl,hb⟩
 unfold iandn
 rw [ht]
 exact wrap_i64 (by omega) (by omega)
theorem bl_less {N s t f:Nat} (h:∀ i,t.testBit i=(s.testBit i && decide (i≠f))) {x:Int} :x ∈ bl N t ↔ x ∈ bl N s/\x≠f:=by
 rw [bl_mem,bl_mem,h,Bool.and_eq_true,decide_eq_true_iff]
 constructor
 ·rintro ⟨a,b,c,d⟩
  exact ⟨⟨a,b,c⟩,by omega⟩
 ·rintro ⟨⟨a,b,c⟩,d⟩
  exact ⟨a,b,c,by omega⟩
theorem less_lt {N s t f:Nat} (hs:s<2 ^ N) (h:∀ i,t.testBit i=(s.testBit i && decide (i≠f))):t<2 ^ N:=Nat.lt_pow_two_of_testBit _ fun i hi=>by
 rw [h,Nat.testBit_lt_two_pow (Nat.lt_of_lt_of_le hs (Nat.pow_le_pow_right (by omega) hi))];rfl
theorem explains_run {d:api_Diag} {l:List (List Int)} {b:List Bool} {s:Nat} {Q:Bool->Prop} (hf:d.Faults.length<=8) (hb:b.length=l.length) (hl:l.length<=200) (hs:s<2 ^ d.Faults.length) (H:∀ r,(r=true ↔ Xpl d l b (bl d.Faults.length s))->Q r):(ref28_explains.f (sgL d l) b (s:Int)).run Q:=by
 have s62:s<2 ^ 62:=Nat.lt_of_lt_of_le hs (Nat.pow_le_pow_right (by omega) (by omega))
 have sl:(sgL d l).length=d.Faults.length:=by unfold sgL;rw [List.length_map]
 unfold ref28_explains.f
 refine W.loop_c (fun p=>∃ i:Nat,p=i/\i<=l.length/\∀ j,j<i->gd b j=true->∃ f,f ∈ bl d.Faults.length s/\mts (gi d.Faults f) (gd l j)=true) (fun p=>l.length - p.toNat) ⟨0,rfl,Nat.zero_le _,fun j hj=>by omega⟩ ?_
 rintro _ P ⟨i,rfl,hi,hr⟩ hgo hbrk hout
 unfold ref28_explains.l1
 simp only [gi_gd]
 refine W.run_if (fun c=>W.req_i (by omega) ?_) fun c=>hbrk _ ?_
 ·have il:i<l.length:=by omega
  refine W.loop_c (fun st:Bool×Int=>∃ f:Nat,st.2=f/\f<=d.Faults.length/\(st.1=true ↔ gd b i=false\/∃ g:Nat,g<f/\s.testBit g=true/\mts (gd d.Faults g) (gd l i)=true)) (fun st=>d.Faults.length - st.2.toNat) ⟨0,rfl,Nat.zero_le _,by simp⟩ ?_
  rintro ⟨r,_⟩ P2 ⟨f,rfl,hf2,hg⟩ hgo2 hbrk2 hout2
  simp only at hg hgo2 hbrk2 |-
  unfold ref28_explains.l2 ref28_explains.j4
  simp only [gi_gd,sl]
  refine W.run_if (fun c2=>W.run_if (fun c3=>hgo2 _ ⟨f+1,by simp,by omega,?_⟩ (by simp;omega)) fun c3=>W.req_i (by omega) (W.run_if (fun c4=>W.req_i (by omega) (W.req_i (by rw [gd_row (by omega),List.length_map];omega) (hgo2 _ ⟨f+1,by simp,by omega,?_⟩ (by simp;omega)))) fun c4=>hgo2 _ ⟨f+1,by simp,by omega,?_⟩ (by simp;omega))) fun c2=>hbrk2 _ ?_
  ·refine ⟨fun _=>?_,fun _=>rfl⟩
   rcases hg.1 c3 with g | ⟨g,g1,g2⟩
   ·exact .inl g
   ·exact .inr ⟨g,by omega,g2⟩
  ·rw [bit_iff s62 (by omega)] at c4
   show gd _ i=true ↔ _
   rw [gd_row (by omega),gd_map il]
   constructor
   ·exact fun g=>.inr ⟨f,by omega,c4,g⟩
   ·rintro (g | ⟨g,g1,g2,g3⟩)
    ·exact absurd (hg.2 (.inl g)) c3
    ·by_cases e:g=f
     ·rw [<- e];exact g3
     ·exact absurd (hg.2 (.inr ⟨g,by omega,g2,g3⟩)) c3
  ·rw [bit_iff s62 (by omega)] at c4
   refine ⟨fun g=>(by cases g),?_⟩
   rintro (g | ⟨g,g1,g2,g3⟩)
   ·exact absurd (hg.2 (.inl g)) c3
   ·by_cases e:g=f
    ·exact absurd (e ▸ g2) c4
    ·exact absurd (hg.2 (.inr ⟨g,by omega,g2,g3⟩)) c3
  ·obtain rfl:f=d.Faults.length:=by omega
   have key:r=true ↔ (gd b i=true->∃ f,f ∈ bl d.Faults.length s/\mts (gi d.Faults f) (gd l i)=true):=by
    rw [hg]
    constructor
    ·rintro (g | ⟨g,g1,g2,g3⟩) h
     ·rw [h] at g;cases g
     ·exact ⟨g,bl_mem.2 ⟨by omega,by omega,by simpa using g2⟩,by rwa [gi_gd]⟩
    ·intro h
     cases hx:gd b i with
     | false=>exact .inl rfl
     | true=>
      obtain ⟨f,f1,f2⟩:=h hx
      obtain ⟨f3,f4,f5⟩:=bl_mem.1 f1
      exact .inr ⟨f.toNat,by omega,f5,by rwa [<- gi_gdi (show f=(f.toNat:Nat) by omega)]⟩
   unfold ref28_explains.j3 ref28_explains.j2
   refine W.run_if (fun c3=>hgo _ ⟨i+1,by simp,by omega,fun j hj=>?_⟩ (by simp;omega)) fun c3=>hout _ (H _ ⟨fun g=>(by cases g),fun g=>absurd (key.2 (g i il)) c3⟩)
   by_cases e:j=i
   ·rw [e];exact key.1 c3
   ·exact hr j (by omega)
 ·obtain rfl:i=l.length:=by omega
  unfold ref28_explains.j1
  exact H _ ⟨fun _=>hr,fun _=>rfl⟩
def Gd (d:api_Diag) (l:List (List Int)) (b:List Bool) (K s:Nat):Prop:=(bl d.Faults.length s).length<=K/\Xpl d l b (bl d.Faults.length s)/\∀ f:Nat,f<d.Faults.length->s.testBit f=true->¬ Xpl d l b ((bl d.Faults.length s).filter fun x=>decide (x≠f))
theorem psL_mem {d:api_Diag} {l:List (List Int)} {b:List Bool} {K:Nat} (hf:d.Faults.length<=8) {x:List Int} :x ∈ psL d l b K ↔ ∃ s,s<2 ^ d.Faults.length/\Gd d l b K s/\bl d.Faults.length s=x:=by
 have sa:Se d.Faults.length (ci (List.range d.Faults.length)):=Se.all _
 rw [(psL_kpt hf).mem]
 constructor
 ·rintro ⟨h1,h2,h3⟩
  obtain ⟨h4,h5⟩:=mem_upto.1 h1
  have sx:=sa.sub h4
  refine ⟨nm x 0,nm_lt sx,?_,nm_bl sx⟩
  unfold Gd
  rw [nm_bl sx]
  refine ⟨h5,h2,fun f hf hb hX=>?_⟩
  have sub:(x.filter fun y=>decide (y≠(f:Int))).Sublist x:=List.filter_sublist
  have e:=h3 _ (mem_upto.2 ⟨sub.trans h4,Nat.le_trans sub.length_le h5⟩) hX sub.subset
  rw [nm_bit fun y hy=>(sx.lt y hy).1] at hb
  have hm:(f:Int) ∈ x:=hb.resolve_left (by simp)
  rw [<- e] at hm
  have:=(List.mem_filter.1 hm).2
  simp at this
 ·rintro ⟨s,hs,⟨h1,h2,h3⟩,rfl⟩
  have sx:Se d.Faults.length (bl d.Faults.length s):=bl_se
  refine ⟨mem_upto.2 ⟨se_sub_all sx,h1⟩,h2,fun o ho hX hsub=>?_⟩
  have so:=sa.sub (mem_upto.1 ho).1
  refine so.ext sx fun y=>⟨fun hy=>hsub hy,fun hy=>Classical.byContradiction fun hn=>?_⟩
  obtain ⟨y1,y2,y3⟩:=bl_mem.1 hy
  refine h3 y.toNat (by omega) y3 (hX.mono fun z hz=>List.mem_filter.2 ⟨hsub hz,decide_eq_true fun e=>hn ?_⟩)
  rw [show y=z by omega];exact hz
theorem ref28_Possible_run {d:api_Diag} {l:List (List Int)} {b:List Bool} {k:Int} {Q:List (List Int)×Int->Prop} (H:∀ e,DiagR d e->Q (psV d l b k e)):(ref28_Possible.f d l b k).run Q:=by
 classical
 unfold ref28_Possible.f
 refine W.bd (ref28_Signature_run fun e he=>?_)
 have H:=H e he
 unfold psV at H
 by_cases c:teV d l e≠0
 ·rw [if_pos c] at H
  rw [show sgV d l e=([],teV d l e) by unfold sgV;rw [if_pos c]]
  exact W.run_if (fun _=>H) fun c2=>absurd c c2
 rw [if_neg c] at H
 rw [show sgV d l e=(sgL d l,0) by unfold sgV;rw [if_neg c]]
 refine W.run_if (fun c2=>absurd rfl c2) fun _=>?_
 refine W.run_if (fun c2=>by rw [if_pos c2] at H;exact H) fun c2=>?_
 rw [if_neg c2] at H
 refine W.run_if (fun c3=>by rw [if_pos (.inl c3)] at H;exact H) fun c3=>W.run_if (fun c4=>by rw [if_pos (.inr c4)] at H;exact H) fun c4=>?_
 rw [if_neg (by omega)] at H
 have ok:=teV_ok (Decidable.not_not.1 c)
 have hf:=(he.ok ok.1).f
 obtain ⟨K,hK⟩:∃ K:Nat,k=K:=⟨k.toNat,by omega⟩
 subst hK
 rw [Int.toNat_natCast] at H
 have bl_:b.length=l.length:=by omega
 have sl:(sgL d l).length=d.Faults.length:=by unfold sgL;rw [List.length_map]
 have p8:2 ^ d.Faults.length<=2 ^ 8:=Nat.pow_le_pow_right (by omega) hf
 refine W.loop_c (fun st:List (List Int)×Int=>∃ t:Nat,st.2=t/\t<=2 ^ d.Faults.length/\st.1=((List.range t).filter fun s=>decide (Gd d l b K s)).map (bl d.Faults.length)) (fun st=>2 ^ d.Faults.length - st.2.toNat) ⟨0,rfl,Nat.zero_le _,rfl⟩ ?_
 rintro ⟨_,_⟩ P ⟨t,rfl,ht,rfl⟩ hgo hbrk hout
 simp only at hgo hbrk |-
 unfold ref28_Possible.l1
 simp only [sl]
 rw [ishlN (by omega)]
 refine W.run_if (fun c5=>?_) fun c5=>hbrk _ ?_
 ·have tl:t<2 ^ d.Faults.length:=by omega
  have t62:t<2 ^ 62:=by omega
  have gl:(((List.range t).filter fun s=>decide (Gd d l b K s)).map (bl d.Faults.length)).length<=t:=by
   have:=List.length_filter_le (fun s=>decide (Gd d l b K s)) (List.range t)
   rwa [List.length_range,<- List.length_map (bl d.Faults.length)] at this
  have rest:∀ r:Bool,(r=true ↔ (bl d.Faults.length t).length<=K/\Xpl d l b (bl d.Faults.length t))->(ref28_Possible.j3 (sgL d l,0) (t:Int) b (((List.range t).filter fun s=>decide (Gd d l b K s)).map (bl d.Faults.length)) r).run P:=fun r hr=>by
   unfold ref28_Possible.j3
   refine W.loop_c (fun st:Bool×Int=>∃ f:Nat,st.2=f/\f<=d.Faults.length/\(st.1=true ↔ ((bl d.Faults.length t).length<=K/\Xpl d l b (bl d.Faults.length t))/\∀ g:Nat,g<f->t.testBit g=true->¬ Xpl d l b ((bl d.Faults.length t).filter fun x=>decide (x≠g)))) (fun st=>d.Faults.length - st.2.toNat) ⟨0,rfl,Nat.zero_le _,by rw [hr];exact ⟨fun h=>⟨h,fun g hg=>by omega⟩,fun h=>h.1⟩⟩ ?_
   rintro ⟨r2,_⟩ P2 ⟨f,rfl,hf2,hg⟩ hgo2 hbrk2 hout2
   simp only at hg hgo2 hbrk2 |-
   unfold ref28_Possible.l2 ref28_Possible.j5
   simp only [sl]
   have done:(r2=true ↔ Gd d l b K t)->P2 (.brk (r2,(f:Int))):=fun h=>hbrk2 _ (by
    unfold ref28_Possible.j4 ref28_Possible.j2
    refine W.run_if (fun c6=>W.bd (listed_run (R:=d.Faults.length) (s:=t) (by omega) tl (W.req_i (by omega) (hgo _ ⟨t+1,by simp,by omega,?_⟩ (by simp;omega))))) fun c6=>hgo _ ⟨t+1,by simp,by omega,?_⟩ (by simp;omega)
    ·show _ ++ _=_
     rw [fil_snoc,if_pos (decide_eq_true (h.1 c6)),List.map_append];rfl
    ·show _=_
     rw [fil_snoc,if_neg (by simpa using fun g=>c6 (h.2 g))])
   have b0:iand .i64 (ishr .i64 (t:Int) (f:Int)) 1=0 ↔ t.testBit f=false:=by
    have b1:=bit_iff (x:=t) (i:=f) t62 (by omega)
    rw [ishrN (by omega)] at b1 |-
    have:t / 2 ^ f<=t:=Nat.div_le_self _ _
    have e2:iand .i64 (((t / 2 ^ f:Nat)):Int) 1=(((t / 2 ^ f) &&& 1:Nat):Int):=iand_nat (y:=1) (by omega) (by omega)
    rw [e2,Nat.and_one_is_mod] at b1 |-
    rw [<- Bool.not_eq_true,<- b1]
    omega
   refine W.run_if (fun c6=>W.run_if (fun c7=>W.req_i (by omega) (W.run_if (fun c8=>hgo2 _ ⟨f+1,by simp,by omega,?_⟩ (by simp;omega)) fun c8=>W.req_i (by omega) ?_)) fun c7=>done ?_) fun c6=>done ?_
   ·rw [b0] at c8
    refine ⟨fun _=>⟨(hg.1 c7).1,fun g h1 h2=>?_⟩,fun _=>rfl⟩
    by_cases e:g=f
    ·rw [e,c8] at h2;cases h2
    ·exact (hg.1 c7).2 g (by omega) h2
   ·rw [b0] at c8
    obtain ⟨u,u1,u2,u3⟩:=iandn_nat (s:=t) (f:=f) t62 (by omega)
    rw [ishlN (by omega),u1]
    have ul:=less_lt tl u3
    have ue:bl d.Faults.length u=(bl d.Faults.length t).filter fun x=>decide (x≠(f:Int)):=by
     refine bl_se.ext ((bl_se (R:=d.Faults.length) (s:=t)).sub List.filter_sublist) fun x=>?_
     rw [bl_less u3,List.mem_filter,decide_eq_true_iff]
    refine W.bd (explains_run hf bl_ ok.2.1 ul fun r3 hr3=>hgo2 _ ⟨f+1,by simp,by omega,?_⟩ (by simp;omega))
    rw [ue] at hr3
    show (!r3)=true ↔ _
    rw [Bool.not_eq_true',<- Bool.not_eq_true,hr3]
    constructor
    ·intro h
     refine ⟨(hg.1 c7).1,fun g h1 h2=>?_⟩
     by_cases e:g=f
     ·rw [e];exact h
     ·exact (hg.1 c7).2 g (by omega) h2
    ·exact fun h=>h.2 f (by omega) (by simpa using c8)
   ·constructor
    ·exact fun h=>absurd h c7
    ·rintro ⟨h1,h2,h3⟩
     exact hg.2 ⟨⟨h1,h2⟩,fun g h4 h5=>h3 g (by omega) h5⟩
   ·obtain rfl:f=d.Faults.length:=by omega
    rw [hg]
    exact ⟨fun h=>⟨h.1.1,h.1.2,h.2⟩,fun h=>⟨⟨h.1,h.2.1⟩,h.2.2⟩⟩
  refine W.bd (listed_run (R:=d.Faults.length) (s:=t) (by omega) tl (W.run_if (fun c6=>W.bd (explains_run hf bl_ ok.2.1 tl fun r hr=>rest r ?_)) fun c6=>rest _ ?_))
  ·rw [hr]
   exact ⟨fun h=>⟨by omega,h⟩,fun h=>h.2⟩
  ·exact ⟨fun h=>(by cases h),fun h=>absurd (by omega) c6⟩
 obtain rfl:t=2 ^ d.Faults.length:=by omega
 clear hgo hbrk hout
 unfold ref28_Possible.j1
 have nd:(((List.range (2 ^ d.Faults.length)).filter fun s=>decide (Gd d l b K s)).map (bl d.Faults.length)).Nodup:=nodup_map (nodup_fil List.nodup_range) fun a b ha hb e=>bl_inj (List.mem_range.1 (List.mem_filter.1 ha).1) (List.mem_range.1 (List.mem_filter.1 hb).1) e
 refine W.bd (sorted_run nd (fun x hx=>?_) fun l' hp hs=>?_)
 ·obtain ⟨s,_,rfl⟩:=List.mem_map.1 hx
  exact bl_se.d10 (by omega)
 have sa:Se d.Faults.length (ci (List.range d.Faults.length)):=Se.all _
 have s10:Se 10 (ci (List.range d.Faults.length)):=⟨sa.so,fun x hx=>by have:=sa.lt x hx;omega⟩
 have e:l'=psL d l b K:=by
  refine sorted_ext (R:=Lt) (fun a b h1 h2=>by unfold Lt at *;omega) hs ((upto_pw s10).sublist (psL_kpt hf).sub) fun x=>?_
  rw [hp.mem_iff,psL_mem hf,List.mem_map]
  constructor
  ·rintro ⟨s,h1,rfl⟩
   obtain ⟨h1,h2⟩:=List.mem_filter.1 h1
   exact ⟨s,List.mem_range.1 h1,of_decide_eq_true h2,rfl⟩
  ·rintro ⟨s,h1,h2,rfl⟩
   exact ⟨s,List.mem_filter.2 ⟨List.mem_range.2 h1,decide_eq_true h2⟩,rfl⟩
 subst e
 exact H
theorem signs_run {d:api_Diag} {l:List (List Int)} {b:List Bool} {k:Int} :(law28_FaultSigns.f d l b k).run (· =true):=by
 unfold law28_FaultSigns.f
 refine W.bd (fault_Signature_run fun e1 h1=>W.bd (ref28_Signature_run fun e2 h2=>?_))
 obtain rfl:=h1.uniq h2
 refine W.run_if (fun c=>absurd rfl c) fun _=>W.bd (sameRows_run (fun _=>W.run_if (fun _=>?_) fun c=>absurd rfl c) fun g=>absurd rfl g)
 refine W.bd (fault_Possible_run fun e3 h3=>W.bd (ref28_Possible_run fun e4 h4=>?_))
 obtain rfl:=h3.uniq h4
 refine W.run_if (fun _=>W.bd (SameAll_run (fun _=>W.run_if (fun _=>W.bd (known_run ?_)) fun c=>absurd rfl c) fun g=>absurd rfl g)) fun c=>absurd rfl c
 rfl
end Go.Proofs.Ytbjnmmgnonldnaa.E
