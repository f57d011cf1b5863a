/- Joined. -/
import Derived.Test.YtbjnmmgnonldnaaKF18
set_option linter.unusedVariables false
set_option linter.unusedSimpArgs false
namespace Go.Proofs.Ytbjnmmgnonldnaa.E
open Go Go.RowKit
end Go.Proofs.Ytbjnmmgnonldnaa.E
namespace Go.Proofs.Ytbjnmmgnonldnaa.E
open Go Go.RowKit
def upto (l:List Int) (k:Nat):List (List Int):=(List.range (k+1)).flatMap fun n=>sbs l n
end Go.Proofs.Ytbjnmmgnonldnaa.E
namespace Go.Proofs.Ytbjnmmgnonldnaa.E
open Go Go.RowKit
end Go.Proofs.Ytbjnmmgnonldnaa.E
namespace Go.Proofs.Ytbjnmmgnonldnaa.E
open Go Go.RowKit
def wS (E:List (List Int)) (s:List Int):List (List Int):=E ++ s.map fun u=>[u]
def Clr (d:api_Diag) (s:List Int):Prop:=∀ i,i<d.Faults.length->Act (wS d.M.E s) (gd d.Faults i) []/\∀ j,j<d.Faults.length->i≠j->Act (wS d.M.E s) (gd d.Faults i) (gd d.Faults j)
theorem wS_len {E:List (List Int)} {s:List Int} :(wS E s).length=E.length+s.length:=by unfold wS;rw [List.length_append,List.length_map]
theorem wS_rws {E:List (List Int)} {s:List Int} {C:Nat} (hR:Rws E C) (hs:∀ u,u ∈ s->0<=u/\u<C):Rws (wS E s) C:=fun r hr=>by
 rw [wS_len] at hr
 unfold wS
 rw [gd_app]
 split
 ·rename_i h;exact hR r h
 ·rename_i h
  have k:r - E.length<s.length:=by omega
  rw [gd_map k]
  have:=hs _ (gd_mem k)
  intro t ht
  obtain rfl:t=0:=by simpa using ht
  exact ⟨this.1,this.2,fun h=>absurd h (Nat.lt_irrefl _)⟩
theorem ovA_run {m:api_Incidence} {C:Nat} {left:List Int} {Q:List Int×Int->Prop} (hC:m.Cols=C) (hc:C<=64) (hR:Rws m.E C) (hl:m.E.length<=64) (H:∀ o:List Int×Int,(∀ f:List Int,(∃ x,x ∈ f/\x ∈ o.1) ↔ Act m.E f left)->Q o):(fault_over.f m (keep m.E.length left)).run Q:=by
 have kl:(keep m.E.length left).length<=m.E.length:=keep_se.len
 exact fault_over_run hC hc (by omega) (fun i hi=>keep_se.lt i hi) (keep_rws hR left) (H _ fun f=>over_act)
theorem clones_run {l:List (List Int)} {Q:List (List Int)->Prop} (hl:l.length<=5864062014805) (H:Q l):(slices_Clones_int.f l).run Q:=by
 unfold slices_Clones_int.f
 refine W.bd ((W.any_r _ _).mpr fun b hb=>W.run_if (fun c=>?_) fun c=>W.req_i (by simpa using hl) ?_)
 ·rw [hb c] at H;exact H
 ·exact H
theorem isClear_run {d:api_Diag} {s:List Int} {Q:Bool->Prop} (hk:DiagOk d) (hs:∀ u,u ∈ s->0<=u/\u<d.M.Cols) (hl:s.length<=4) (H:∀ b,(b=true ↔ Clr d s)->Q b):(fault_isClear.f d s).run Q:=by
 have hm:=hk.m
 have r0:=hm.r0
 have r1:=hk.r
 have c0:=hm.c0
 have c1:=hm.c1
 have hf:=hk.f
 have el:=hm.len
 obtain ⟨C,hC⟩:∃ C:Nat,d.M.Cols=C:=⟨d.M.Cols.toNat,by omega⟩
 have hR:Rws d.M.E C:=fun r hr=>by have:=hm.asc r hr;rwa [hC] at this
 have hR2:=wS_rws hR (s:=s) fun u hu=>by rw [<- hC];exact hs u hu
 have wl:=wS_len (E:=d.M.E) (s:=s)
 unfold fault_isClear.f
 refine W.req_i (by show _/\_;omega) (W.bd (clones_run (by omega) ?_))
 refine W.loop_c (fun st:Int×Int×List (List Int)×Int=>∃ t:Nat,st.2.2.2=t/\t<=s.length/\st.1=(d.M.E.length+s.length:Nat)/\st.2.1=C/\st.2.2.1=wS d.M.E (s.take t)) (fun st=>s.length - st.2.2.2.toNat) ⟨0,rfl,Nat.zero_le _,by simp only;omega,hC,by unfold wS;simp⟩ ?_
 rintro ⟨_,_,_,_⟩ P ⟨t,rfl,ht,rfl,rfl,rfl⟩ hgo hbrk hout
 simp only at hgo hbrk |-
 unfold fault_isClear.l4
 simp only [gi_gd]
 have tl:(s.take t).length<=t:=List.length_take_le ..
 refine W.run_if (fun c=>W.req_i (by omega) (W.req_i (by rw [wS_len];omega) (hgo _ ⟨t+1,by simp,by omega,rfl,rfl,?_⟩ (by simp;omega)))) fun c=>hbrk _ ?_
 ·show _ ++ _=_
  unfold wS
  rw [map_take_succ (by omega),List.append_assoc]
 obtain rfl:t=s.length:=by omega
 rw [List.take_length]
 clear hgo hbrk hout
 generalize hE:wS d.M.E s=E at hR2 wl |-
 have clr:Clr d s ↔ ∀ i,i<d.Faults.length->Act E (gd d.Faults i) []/\∀ j,j<d.Faults.length->i≠j->Act E (gd d.Faults i) (gd d.Faults j):=by unfold Clr;rw [hE]
 rw [<- wl]
 unfold fault_isClear.j1
 refine W.bd (fault_all_run (by omega) ?_)
 rw [<- keep_all]
 refine W.bd (ovA_run (m:=⟨_,_,E⟩) rfl (by omega) hR2 (by show E.length<=64;omega) fun o ho=>?_)
 refine W.loop_c (fun p=>∃ i:Nat,p=i/\i<=d.Faults.length/\∀ j,j<i->Act E (gd d.Faults j) []) (fun p=>d.Faults.length - p.toNat) ⟨0,rfl,Nat.zero_le _,fun j hj=>by omega⟩ ?_
 rintro _ P ⟨i,rfl,hi,hr⟩ hgo hbrk hout
 unfold fault_isClear.l3
 simp only [gi_gd]
 refine W.run_if (fun c=>W.req_i (by omega) (W.bd (acts_run fun b hb=>W.run_if (fun c2=>hgo _ ⟨i+1,by simp,by omega,fun j hj=>?_⟩ (by simp;omega)) fun c2=>hout _ (H _ ⟨fun g=>(by cases g),fun g=>absurd (hb.2 ((ho _).2 (clr.1 g i (by omega)).1)) c2⟩)))) fun c=>hbrk _ ?_
 ·by_cases e:j=i
  ·rw [e];exact (ho _).1 (hb.1 c2)
  ·exact hr j (by omega)
 obtain rfl:i=d.Faults.length:=by omega
 clear hgo hbrk hout
 have one:=hr
 unfold fault_isClear.j2
 refine W.loop_c (fun p=>∃ j:Nat,p=j/\j<=d.Faults.length/\∀ k,k<j->∀ i,i<d.Faults.length->i≠k->Act E (gd d.Faults i) (gd d.Faults k)) (fun p=>d.Faults.length - p.toNat) ⟨0,rfl,Nat.zero_le _,fun j hj=>by omega⟩ ?_
 rintro _ P ⟨j,rfl,hj,hr2⟩ hgo hbrk hout
 unfold fault_isClear.l1
 simp only [gi_gd]
 refine W.run_if (fun c=>W.req_i (by omega) (W.bd (without_run (R:=E.length) rfl (by omega) (W.bd (ovA_run (m:=⟨_,_,E⟩) rfl (by omega) hR2 (by show E.length<=64;omega) fun o2 ho2=>?_))))) fun c=>hbrk _ ?_
 ·refine W.loop_c (fun p=>∃ i:Nat,p=i/\i<=d.Faults.length/\∀ k,k<i->k≠j->Act E (gd d.Faults k) (gd d.Faults j)) (fun p=>d.Faults.length - p.toNat) ⟨0,rfl,Nat.zero_le _,fun j hj=>by omega⟩ ?_
  rintro _ P2 ⟨i,rfl,hi,hr3⟩ hgo2 hbrk2 hout2
  unfold fault_isClear.l2
  simp only [gi_gd]
  have next:(i≠j->Act E (gd d.Faults i) (gd d.Faults j))->i<d.Faults.length->P2 (.go ((i:Int)+1)):=fun h h2=>hgo2 _ ⟨i+1,by simp,by omega,fun k hk hkj=>by
   by_cases e:k=i
   ·subst e;exact h hkj
   ·exact hr3 k (by omega) hkj⟩ (by simp;omega)
  refine W.run_if (fun c2=>W.req_i (by omega) (W.run_if (fun c3=>W.bd (acts_run fun b hb=>W.run_if (fun c4=>next (fun _=>(ho2 _).1 (hb.1 c4)) (by omega)) fun c4=>hout2 _ (hout _ (H _ ⟨fun g=>(by cases g),fun g=>absurd (hb.2 ((ho2 _).2 ((clr.1 g i (by omega)).2 j (by omega) (by omega)))) c4⟩)))) fun c3=>next (fun g=>absurd (by omega) c3) (by omega))) fun c2=>hbrk2 _ ?_
  obtain rfl:i=d.Faults.length:=by omega
  unfold fault_isClear.j4
  refine hgo _ ⟨j+1,by simp,by omega,fun k hk i hi hik=>?_⟩ (by simp;omega)
  by_cases e:k=j
  ·subst e;exact hr3 i hi hik
  ·exact hr2 k (by omega) i hi hik
 ·obtain rfl:j=d.Faults.length:=by omega
  unfold fault_isClear.j3
  exact H _ ⟨fun _=>clr.2 fun i hi=>⟨one i hi,fun j hj hij=>hr2 j hj i hi hij⟩,fun _=>rfl⟩
theorem tells_s_run {d:api_Diag} {s:List Int} {Q:Bool->Prop} (hk:DiagOk d) (hs:∀ u,u ∈ s->0<=u/\u<d.M.Cols) (hl:s.length<=4) (H:∀ b,(b=true ↔ Clr d s)->Q b):(ref28_tells.f d s).run Q:=by
 have hm:=hk.m
 have r0:=hm.r0
 have r1:=hk.r
 have c0:=hm.c0
 have c1:=hm.c1
 have hf:=hk.f
 have el:=hm.len
 obtain ⟨C,hC⟩:∃ C:Nat,d.M.Cols=C:=⟨d.M.Cols.toNat,by omega⟩
 have hR:Rws d.M.E C:=fun r hr=>by have:=hm.asc r hr;rwa [hC] at this
 have hR2:=wS_rws hR (s:=s) fun u hu=>by rw [<- hC];exact hs u hu
 have wl:=wS_len (E:=d.M.E) (s:=s)
 unfold ref28_tells.f
 refine W.req_i (by omega) ?_
 refine W.loop_c (fun st:List (List Int)×Int=>∃ t:Nat,st.2=t/\t<=s.length/\st.1=wS d.M.E (s.take t)) (fun st=>s.length - st.2.toNat) ⟨0,rfl,Nat.zero_le _,by unfold wS;simp⟩ ?_
 rintro ⟨_,_⟩ P ⟨t,rfl,ht,rfl⟩ hgo hbrk hout
 simp only at hgo hbrk |-
 unfold ref28_tells.l3
 simp only [gi_gd]
 have tl:(s.take t).length<=t:=List.length_take_le ..
 refine W.run_if (fun c=>W.req_i (by omega) (W.req_i (by rw [wS_len];omega) (hgo _ ⟨t+1,by simp,by omega,?_⟩ (by simp;omega)))) fun c=>hbrk _ ?_
 ·show _ ++ _=_
  unfold wS
  rw [map_take_succ (by omega),List.append_assoc]
 obtain rfl:t=s.length:=by omega
 rw [List.take_length]
 clear hgo hbrk hout
 generalize hE:wS d.M.E s=E at hR2 wl |-
 have clr:Clr d s ↔ ∀ i,i<d.Faults.length->Act E (gd d.Faults i) []/\∀ j,j<d.Faults.length->i≠j->Act E (gd d.Faults i) (gd d.Faults j):=by unfold Clr;rw [hE]
 unfold ref28_tells.j1
 refine W.loop_c (fun p=>∃ i:Nat,p=i/\i<=d.Faults.length/\∀ k,k<i->Act E (gd d.Faults k) []/\∀ j,j<d.Faults.length->k≠j->Act E (gd d.Faults k) (gd d.Faults j)) (fun p=>d.Faults.length - p.toNat) ⟨0,rfl,Nat.zero_le _,fun j hj=>by omega⟩ ?_
 rintro _ P ⟨i,rfl,hi,hr⟩ hgo hbrk hout
 unfold ref28_tells.l1
 simp only [gi_gd]
 refine W.run_if (fun c=>W.req_i (by omega) (W.bd (ref28_acts_run hR2 (by omega) (by omega) fun b hb=>W.run_if (fun c2=>?_) fun c2=>hout _ (H _ ⟨fun g=>(by cases g),fun g=>absurd (hb.2 (clr.1 g i (by omega)).1) c2⟩)))) fun c=>hbrk _ ?_
 ·refine W.loop_c (fun p=>∃ j:Nat,p=j/\j<=d.Faults.length/\∀ k,k<j->i≠k->Act E (gd d.Faults i) (gd d.Faults k)) (fun p=>d.Faults.length - p.toNat) ⟨0,rfl,Nat.zero_le _,fun j hj=>by omega⟩ ?_
  rintro _ P2 ⟨j,rfl,hj,hr3⟩ hgo2 hbrk2 hout2
  unfold ref28_tells.l2 ref28_tells.j4
  simp only [gi_gd]
  have next:(i≠j->Act E (gd d.Faults i) (gd d.Faults j))->j<d.Faults.length->P2 (.go ((j:Int)+1)):=fun h h2=>hgo2 _ ⟨j+1,by simp,by omega,fun k hk hkj=>by
   by_cases e:k=j
   ·subst e;exact h hkj
   ·exact hr3 k (by omega) hkj⟩ (by simp;omega)
  refine W.run_if (fun c3=>W.run_if (fun c4=>W.req_i (by omega) (W.req_i (by omega) (W.bd (ref28_acts_run hR2 (by omega) (by omega) fun b2 hb2=>W.run_if (fun c5=>next (fun _=>hb2.1 c5) (by omega)) fun c5=>hout2 _ (hout _ (H _ ⟨fun g=>(by cases g),fun g=>absurd (hb2.2 ((clr.1 g i (by omega)).2 j (by omega) (by omega))) c5⟩)))))) fun c4=>next (fun g=>absurd (by omega) c4) (by omega)) fun c3=>hbrk2 _ ?_
  obtain rfl:j=d.Faults.length:=by omega
  unfold ref28_tells.j3
  refine hgo _ ⟨i+1,by simp,by omega,fun k hk=>?_⟩ (by simp;omega)
  by_cases e:k=i
  ·subst e;exact ⟨hb.1 c2,hr3⟩
  ·exact hr k (by omega)
 ·obtain rfl:i=d.Faults.length:=by omega
  unfold ref28_tells.j2
  exact H _ ⟨fun _=>clr.2 hr,fun _=>rfl⟩
open Classical in
noncomputable def fnd (d:api_Diag) (l:List (List Int)):Option (List Int):=l.find? fun c=>decide (Clr d c)
theorem fnd_pos {d:api_Diag} {c:List Int} (h:Clr d c):fnd d [c] =some c:=by
 classical
 unfold fnd
 simp [h]
theorem fnd_neg {d:api_Diag} {c:List Int} (h: ¬ Clr d c):fnd d [c] =none:=by
 classical
 unfold fnd
 simp [h]
theorem fnd_app {d:api_Diag} {l l':List (List Int)} :fnd d (l ++ l')=(fnd d l).or (fnd d l'):=List.find?_append
def opB (x:List Int):Option (List Int)->Bool×List Int
 | some c=>(true,c)
 | none=>(false,x)
abbrev SenA:=Int×Int×List Int×api_Diag×List Int×List Int
def SenS (d:api_Diag) (may:List Int) (a:SenA) (Q:Bool×List Int->Prop):Prop:=
 ∃ i need:Nat,a.1=i/\a.2.1=need/\a.2.2.1.length+need<=4/\i<=may.length/\a.2.2.2.1=d/\a.2.2.2.2.2=may/\(∀ u,u ∈ a.2.2.1->u ∈ may)/\Q (opB a.2.2.2.2.1 (fnd d ((sbs (may.drop i) need).map (a.2.2.1 ++ ·))))
theorem sen_run {d:api_Diag} {may:List Int} (hk:DiagOk d) (hm:Se d.M.Cols may) {a:SenA} {Q:Bool×List Int->Prop} (hS:SenS d may a Q):(fault_Sensors_1.f a.1 a.2.1 a.2.2.1 a.2.2.2.1 a.2.2.2.2.1 a.2.2.2.2.2).run Q:=by
 have c0:=hk.m.c0
 have c1:=hk.m.c1
 have ml:may.length<=d.M.Cols.toNat:=Se.len (by rwa [show ((d.M.Cols.toNat:Nat):Int)=d.M.Cols by omega])
 unfold fault_Sensors_1.f
 refine W.fix_run (fun a=>a.2.1.toNat) (S:=SenS d may) ?_ _ Q hS
 clear hS
 rintro rec ⟨x0,x1,ch,x3,out,x5⟩ Q hrec ⟨i,need,hx0,hx1,hn,hi,hx3,hx5,hch,H⟩
 simp only at hx0 hx1 hn hx3 hx5 hch H hrec |-
 subst hx0 hx1
 obtain rfl:d=x3:=hx3.symm
 obtain rfl:may=x5:=hx5.symm
 unfold fault_Sensors_1.b
 refine W.run_if (fun c=>?_) fun c=>?_
 ·obtain rfl:need=0:=by omega
  unfold sbs at H
  simp only [List.map_cons,List.map_nil,List.append_nil] at H
  refine W.bd (isClear_run hk (fun u hu=>hm.lt u (hch u hu)) (by omega) fun b hb=>W.run_if (fun c2=>W.bd (clone_run (by omega) ?_)) fun c2=>?_)
  ·rw [fnd_pos (hb.1 c2)] at H
   exact H
  ·rw [fnd_neg fun g=>c2 (hb.2 g)] at H
   exact H
 ·obtain ⟨nd,rfl⟩:∃ nd,need=nd+1:=⟨need - 1,by omega⟩
  refine W.loop_c (fun s:List Int×Int=>∃ j:Nat,s.2=j/\i<=j/\j<=may.length/\s.1=out/\fnd d ((sbs (may.drop j) (nd+1)).map (ch ++ ·))=fnd d ((sbs (may.drop i) (nd+1)).map (ch ++ ·))) (fun s=>may.length - s.2.toNat) ⟨i,rfl,Nat.le_refl _,hi,rfl,rfl⟩ ?_
  rintro ⟨_,_⟩ P ⟨j,rfl,hij,hj,rfl,he⟩ hgo hbrk hout
  simp only at he hgo hbrk |-
  unfold fault_Sensors_1.l1
  simp only [gi_gd]
  rcases Nat.lt_or_ge may.length (j+(nd+1)) with big | big
  ·refine W.req_i (by show _/\_;omega) (W.run_if (fun c=>by omega) fun c=>hbrk _ ?_)
   unfold fault_Sensors_1.j1
   rw [sbs_len (by rw [List.length_drop];omega)] at he
   rw [<- he] at H
   exact H
  ·refine W.req_i (by show _/\_;omega) (W.run_if (fun c2=>W.req_i (by omega) (W.req_i (by show _/\_;omega) (W.req_i (by show _/\_;omega) (W.bd (clone_run (by omega) (W.req_i (by omega) ?_)))))) fun c2=>by omega)
   have jl:j<may.length:=by omega
   have ej:gd may j=may[j]:=gd_lt jl
   have dj:may.drop j=gd may j ::may.drop (j+1):=by rw [ej];exact List.drop_eq_getElem_cons jl
   have step:fnd d ((sbs (may.drop j) (nd+1)).map (ch ++ ·))=(fnd d ((sbs (may.drop (j+1)) nd).map ((ch ++ [gd may j]) ++ ·))).or (fnd d ((sbs (may.drop (j+1)) (nd+1)).map (ch ++ ·))):=by
    rw [dj]
    conv=>lhs;unfold sbs
    rw [List.map_append,fnd_app,List.map_map]
    congr 2
    exact List.map_congr_left fun x _=>by simp
   refine W.bd (hrec _ _ (by show (((nd+1:Nat):Int) - 1).toNat<((nd+1:Nat):Int).toNat;omega) ⟨j+1,nd,by simp,by show ((nd+1:Nat):Int) - 1=_;omega,by show (ch ++ [gd may j]).length+nd<=4;rw [List.length_append];simp only [List.length_cons,List.length_nil];omega,by omega,rfl,rfl,fun u hu=>?_,?_⟩)
   ·rcases List.mem_append.1 hu with g | g
    ·exact hch u g
    ·rw [List.mem_singleton.1 g];exact gd_mem jl
   ·simp only
    unfold fault_Sensors_1.j2
    cases hf:fnd d ((sbs (may.drop (j+1)) nd).map ((ch ++ [gd may j]) ++ ·)) with
    | some c=>
     refine W.run_if (fun _=>hout _ ?_) fun c2=>absurd rfl c2
     rw [hf] at step
     rw [<- he,step] at H
     exact H
    | none=>
     rw [hf] at step
     refine W.run_if (fun c2=>by cases c2) fun _=>W.req_i (by show _/\_;omega) (hgo _ ⟨j+1,by simp,by omega,by omega,rfl,?_⟩ (by simp;omega))
     rw [<- he,step]
     rfl
open Classical in
noncomputable def snV (d:api_Diag) (may:List Int) (k e:Int):List Int×Bool×Int:=
 if e≠0 then ([],false,e) else if ¬ Asc may d.M.Cols then ([],false,1) else if k<0\/4<k then ([],false,1) else
  match fnd d (upto may k.toNat) with
  | some c=>(c,true,0)
  | none=>([],false,0)
theorem upto_succ {l:List Int} {k:Nat} :(List.range (k+1)).flatMap (fun n=>sbs l n)=(List.range k).flatMap (fun n=>sbs l n) ++ sbs l k:=by
 rw [List.range_succ,List.flatMap_append];simp
theorem fnd_pre {d:api_Diag} {l:List Int} {n k:Nat} (h:n<=k) {c:List Int} (hf:fnd d ((List.range n).flatMap fun n=>sbs l n)=some c):fnd d ((List.range k).flatMap fun n=>sbs l n)=some c:=by
 obtain ⟨m,rfl⟩:∃ m,k=n+m:=⟨k - n,by omega⟩
 rw [List.range_add,List.flatMap_append,fnd_app,hf];rfl
theorem fault_Sensors_run {d:api_Diag} {may:List Int} {k:Int} {Q:List Int×Bool×Int->Prop} (H:∀ e,DiagR d e->Q (snV d may k e)):(fault_Sensors.f d may k).run Q:=by
 unfold fault_Sensors.f
 refine W.bd (fault_Validate_run fun e he=>?_)
 have H:=H e he
 unfold snV at H
 refine W.run_if (fun c=>by rw [if_pos c] at H;exact H) fun c=>?_
 rw [if_neg c] at H
 have hk:=he.ok (by omega)
 refine W.bd (fault_isSet_run (fun g=>W.run_if (fun _=>?_) fun c=>absurd rfl c) fun g=>W.run_if (fun c=>by cases c) fun _=>by rw [if_pos g] at H;exact H)
 rw [if_neg (fun h=>h g)] at H
 refine W.run_if (fun c2=>by rw [if_pos (.inl c2)] at H;exact H) fun c2=>W.run_if (fun c3=>by rw [if_pos (.inr c3)] at H;exact H) fun c3=>?_
 rw [if_neg (by omega)] at H
 have hs:=g.se
 obtain ⟨K,hK⟩:∃ K:Nat,k=K:=⟨k.toNat,by omega⟩
 subst hK
 rw [Int.toNat_natCast] at H
 unfold upto at H
 refine W.loop_c (fun s:List Int×Int=>∃ n:Nat,s.2=n/\n<=K+1/\fnd d ((List.range n).flatMap fun n=>sbs may n)=none) (fun s=>K+1 - s.2.toNat) ⟨0,rfl,Nat.zero_le _,rfl⟩ ?_
 rintro ⟨o,_⟩ P ⟨n,rfl,hn,hf⟩ hgo hbrk hout
 simp only at hf hgo hbrk |-
 unfold fault_Sensors.l1
 refine W.run_if (fun c5=>?_) fun c5=>hbrk _ ?_
 ·have step:fnd d ((List.range (n+1)).flatMap fun n=>sbs may n)=fnd d ((sbs (may.drop 0) n).map ([] ++ ·)):=by
   rw [upto_succ,fnd_app,hf]
   simp
  refine W.bd (sen_run hk hs (a:=((0:Int),(n:Int),[],d,o,may)) ⟨0,n,rfl,rfl,by show 0+n<=4;omega,Nat.zero_le _,rfl,rfl,fun u hu=>(by cases hu),?_⟩)
  simp only
  cases hx:fnd d ((sbs (may.drop 0) n).map ([] ++ ·)) with
  | some c=>
   refine W.run_if (fun _=>hout _ ?_) fun c2=>absurd rfl c2
   rw [fnd_pre (show n+1<=K+1 by omega) (step.trans hx)] at H
   exact H
  | none=>exact W.run_if (fun c2=>by cases c2) fun _=>W.req_i (by show _/\_;omega) (hgo _ ⟨n+1,by simp,by omega,step.trans hx⟩ (by simp;omega))
 ·obtain rfl:n=K+1:=by omega
  unfold fault_Sensors.j1
  rw [hf] at H
  exact H
abbrev TriA:=api_Diag×List Int×Int×List Int
def TriS (d:api_Diag) (may:List Int) (a:TriA) (Q:List Int×Bool->Prop):Prop:=
 ∃ need:Nat,a.1=d/\a.2.1.length<=64/\a.2.2.1=need/\a.2.2.2.length+need<=4/\(∀ u,u ∈ a.2.1->u ∈ may)/\(∀ u,u ∈ a.2.2.2->u ∈ may)/\∀ r:List Int×Bool,(∀ c,fnd d ((sbs a.2.1 need).map (a.2.2.2 ++ ·))=some c->r=(c,true))->(fnd d ((sbs a.2.1 need).map (a.2.2.2 ++ ·))=none->r.2=false)->Q r
theorem tri_run {d:api_Diag} {may:List Int} (hk:DiagOk d) (hm:Se d.M.Cols may) {a:TriA} {Q:List Int×Bool->Prop} (hS:TriS d may a Q):(ref28_tried.f a.1 a.2.1 a.2.2.1 a.2.2.2).run Q:=by
 unfold ref28_tried.f
 refine W.fix_run (fun a=>a.2.2.1.toNat) (S:=TriS d may) ?_ _ Q hS
 clear hS
 rintro rec ⟨x0,l,x2,ch⟩ Q hrec ⟨need,hx0,hl,hx2,hn,hsub,hch,H⟩
 simp only at hx0 hl hx2 hn hsub hch H hrec |-
 subst hx2
 obtain rfl:d=x0:=hx0.symm
 unfold ref28_tried.b
 refine W.run_if (fun c=>?_) fun c=>?_
 ·obtain rfl:need=0:=by omega
  unfold sbs at H
  simp only [List.map_cons,List.map_nil,List.append_nil] at H
  refine W.bd (tells_s_run hk (fun u hu=>hm.lt u (hch u hu)) (by omega) fun b hb=>?_)
  show Q _
  by_cases c2:Clr d ch
  ·rw [fnd_pos c2] at H
   refine H _ (fun c hc=>?_) fun h=>by cases h
   rw [Option.some.inj hc,hb.2 c2]
  ·rw [fnd_neg c2] at H
   exact H _ (fun c hc=>by cases hc) fun _=>Bool.eq_false_iff.2 fun g=>c2 (hb.1 g)
 ·obtain ⟨nd,rfl⟩:∃ nd,need=nd+1:=⟨need - 1,by omega⟩
  refine W.loop_c (fun p=>∃ j:Nat,p=j/\j<=l.length/\fnd d ((sbs (l.drop j) (nd+1)).map (ch ++ ·))=fnd d ((sbs l (nd+1)).map (ch ++ ·))) (fun p=>l.length - p.toNat) ⟨0,rfl,Nat.zero_le _,rfl⟩ ?_
  rintro _ P ⟨j,rfl,hj,he⟩ hgo hbrk hout
  unfold ref28_tried.l1
  simp only [gi_gd]
  rcases Nat.lt_or_ge l.length (j+(nd+1)) with big | big
  ·refine W.req_i (by show _/\_;omega) (W.run_if (fun c=>by omega) fun c=>hbrk _ ?_)
   unfold ref28_tried.j1
   rw [sbs_len (by rw [List.length_drop];omega)] at he
   rw [<- he] at H
   exact H _ (fun c hc=>by cases hc) fun _=>rfl
  ·refine W.req_i (by show _/\_;omega) (W.run_if (fun c2=>W.req_i (by omega) (W.req_i (by show _/\_;omega) (W.req_i (by omega) (W.req_i (by show _/\_;omega) (W.req_i (by omega) (W.req_i (by omega) ?_)))))) fun c2=>by omega)
   have jl:j<l.length:=by omega
   have ej:gd l j=l[j]:=gd_lt jl
   have dj:l.drop j=gd l j ::l.drop (j+1):=by rw [ej];exact List.drop_eq_getElem_cons jl
   have step:fnd d ((sbs (l.drop j) (nd+1)).map (ch ++ ·))=(fnd d ((sbs (l.drop (j+1)) nd).map ((ch ++ [gd l j]) ++ ·))).or (fnd d ((sbs (l.drop (j+1)) (nd+1)).map (ch ++ ·))):=by
    rw [dj]
    conv=>lhs;unfold sbs
    rw [List.map_append,fnd_app,List.map_map]
    congr 2
    exact List.map_congr_left fun x _=>by simp
   rw [show ((j:Int)+1).toNat=j+1 by omega]
   refine W.bd (hrec _ _ (by show (((nd+1:Nat):Int) - 1).toNat<((nd+1:Nat):Int).toNat;omega) ⟨nd,rfl,by show (l.drop (j+1)).length<=64;rw [List.length_drop];omega,by show ((nd+1:Nat):Int) - 1=_;omega,by show (ch ++ [gd l j]).length+nd<=4;rw [List.length_append];simp only [List.length_cons,List.length_nil];omega,fun u hu=>hsub u (List.mem_of_mem_drop hu),fun u hu=>?_,fun r h1 h2=>?_⟩)
   ·rcases List.mem_append.1 hu with g | g
    ·exact hch u g
    ·rw [List.mem_singleton.1 g];exact hsub _ (gd_mem jl)
   ·simp only at h1 h2
    unfold ref28_tried.j3 ref28_tried.j2
    cases hf:fnd d ((sbs (l.drop (j+1)) nd).map ((ch ++ [gd l j]) ++ ·)) with
    | some c=>
     obtain rfl:=h1 c hf
     refine W.run_if (fun _=>hout _ ?_) fun c2=>absurd rfl c2
     rw [hf] at step
     rw [<- he,step] at H
     exact H _ (fun c' hc=>by rw [<- Option.some.inj hc]) fun h=>by cases h
    | none=>
     rw [hf] at step
     refine W.run_if (fun c2=>by rw [h2 hf] at c2;cases c2) fun _=>W.req_i (by show _/\_;omega) (hgo _ ⟨j+1,by simp,by omega,?_⟩ (by simp;omega))
     rw [<- he,step]
     rfl
theorem fnd_none {d:api_Diag} {l:List Int} {n:Nat} (h:l.length<n) (hf:fnd d ((List.range n).flatMap fun n=>sbs l n)=none) {k:Nat} (hk:n<=k):fnd d ((List.range k).flatMap fun n=>sbs l n)=none:=by
 obtain ⟨m,rfl⟩:∃ m,k=n+m:=⟨k - n,by omega⟩
 induction m with
 | zero=>exact hf
 | succ m ih=>
  rw [<- Nat.add_assoc,upto_succ,fnd_app,ih (by omega),sbs_len (by omega)]
  rfl
theorem ref28_Sensors_run {d:api_Diag} {may:List Int} {k:Int} {Q:List Int×Bool×Int->Prop} (H:∀ e,DiagR d e->Q (snV d may k e)):(ref28_Sensors.f d may k).run Q:=by
 unfold ref28_Sensors.f
 refine W.bd (ref28_Validate_run fun e he=>?_)
 have H:=H e he
 unfold snV at H
 refine W.run_if (fun c=>by rw [if_pos c] at H;exact H) fun c=>?_
 rw [if_neg c] at H
 have hk:=he.ok (by omega)
 refine W.bd (ref28_isSet_run (fun g=>W.run_if (fun _=>?_) fun c=>absurd rfl c) fun g=>W.run_if (fun c=>by cases c) fun _=>by rw [if_pos g] at H;exact H)
 rw [if_neg (fun h=>h g)] at H
 refine W.run_if (fun c2=>by rw [if_pos (.inl c2)] at H;exact H) fun c2=>W.run_if (fun c3=>by rw [if_pos (.inr c3)] at H;exact H) fun c3=>?_
 rw [if_neg (by omega)] at H
 have hs:=g.se
 have c0:=hk.m.c0
 have c1:=hk.m.c1
 have ml:may.length<=d.M.Cols.toNat:=Se.len (by rwa [show ((d.M.Cols.toNat:Nat):Int)=d.M.Cols by omega])
 obtain ⟨K,hK⟩:∃ K:Nat,k=K:=⟨k.toNat,by omega⟩
 subst hK
 rw [Int.toNat_natCast] at H
 unfold upto at H
 have hmn:mn (K:Int) (may.length:Int)=(min K may.length:Nat):=by unfold mn;split <;> omega
 rw [show (fun s=>ref28_Sensors.l1 (K:Int) may d s)=fun s=>ref28_Sensors.l1 (K:Int) may d s from rfl]
 refine W.loop_c (fun p=>∃ n:Nat,p=n/\n<=min K may.length+1/\fnd d ((List.range n).flatMap fun n=>sbs may n)=none) (fun p=>min K may.length+1 - p.toNat) ⟨0,rfl,Nat.zero_le _,rfl⟩ ?_
 rintro _ P ⟨n,rfl,hn,hf⟩ hgo hbrk hout
 unfold ref28_Sensors.l1
 rw [hmn]
 refine W.run_if (fun c5=>?_) fun c5=>hbrk _ ?_
 ·have step:fnd d ((List.range (n+1)).flatMap fun n=>sbs may n)=fnd d ((sbs may n).map ([] ++ ·)):=by
   rw [upto_succ,fnd_app,hf]
   simp
  refine W.bd (tri_run hk hs (a:=(d,may,(n:Int),[])) ⟨n,rfl,by show may.length<=64;omega,rfl,by show 0+n<=4;omega,fun u hu=>hu,fun u hu=>(by cases hu),fun r h1 h2=>?_⟩)
  simp only at h1 h2
  cases hx:fnd d ((sbs may n).map ([] ++ ·)) with
  | some c=>
   obtain rfl:=h1 c hx
   refine W.run_if (fun _=>hout _ ?_) fun c2=>absurd rfl c2
   rw [fnd_pre (show n+1<=K+1 by omega) (step.trans hx)] at H
   exact H
  | none=>exact W.run_if (fun c2=>by rw [h2 hx] at c2;cases c2) fun _=>W.req_i (by show _/\_;omega) (hgo _ ⟨n+1,by simp,by omega,step.trans hx⟩ (by simp;omega))
 ·obtain rfl:n=min K may.length+1:=by omega
  unfold ref28_Sensors.j1
  rcases Nat.lt_or_ge may.length K with big | big
  ·rw [fnd_none (by omega) hf (by omega)] at H
   exact H
  ·rw [show min K may.length+1=K+1 by omega] at hf
   rw [hf] at H
   exact H
theorem sensors_run {d:api_Diag} {may:List Int} {k:Int} :(law28_FaultSensors.f d may k).run (· =true):=by
 unfold law28_FaultSensors.f
 refine W.bd (fault_Sensors_run fun e1 h1=>W.bd (ref28_Sensors_run fun e2 h2=>?_))
 obtain rfl:=h1.uniq h2
 refine W.run_if (fun _=>W.run_if (fun _=>W.bd (Same_run (fun _=>W.run_if (fun _=>W.bd (known_run ?_)) fun c=>absurd rfl c) fun g=>absurd rfl g)) fun c=>absurd rfl c) fun c=>absurd (by simp) c
 rfl
end Go.Proofs.Ytbjnmmgnonldnaa.E
