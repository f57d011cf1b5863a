/- Joined. -/
import Derived.Test.YtbjnmmgnonldnaaKF11
set_option linter.unusedVariables false
set_option linter.unusedSimpArgs false
namespace Go.Proofs.Ytbjnmmgnonldnaa.E
open Go Go.RowKit
theorem iand_nat {x y:Nat} (hx:x<2 ^ 62) (hy:y<2 ^ 62):iand .i64 (x:Int) (y:Int)=((x &&& y:Nat):Int):=by
 unfold iand
 have e:IntKind.i64.bits=64:=rfl
 rw [BitVec.toNat_and,bv_nat (by omega) (by rw [e];omega),bv_nat (by omega) (by rw [e];omega),Int.toNat_natCast,Int.toNat_natCast]
 have:x &&& y<=y:=Nat.and_le_right
 exact wrap_i64 (by omega) (by omega)
theorem ishrN {x i:Nat} (hi:i<=64):ishr .i64 (x:Int) (i:Int)=((x / 2 ^ i:Nat):Int):=by
 rw [ishr_n _ _ _ hi]
 push_cast
 rfl
theorem ishlN {i:Nat} (hi:i<60):ishl .i64 1 (i:Int)=((2 ^ i:Nat):Int):=by
 rw [ishl_n _ _ _ (by show i<=64;omega),Int.one_mul]
 have h1:(2:Nat) ^ i<2 ^ 60:=Nat.pow_lt_pow_right (by omega) hi
 have h2:((2:Int) ^ i)=((2 ^ i:Nat):Int):=by push_cast;rfl
 rw [h2]
 clear h2
 generalize (2:Nat) ^ i=z at h1 |-
 exact wrap_i64 (by omega) (by omega)
theorem bit_iff {x i:Nat} (hx:x<2 ^ 62) (hi:i<=64):iand .i64 (ishr .i64 (x:Int) (i:Int)) 1=1 ↔ x.testBit i=true:=by
 have h1:x / 2 ^ i<=x:=Nat.div_le_self _ _
 rw [ishrN hi]
 show iand .i64 _ ((1:Nat):Int)=1 ↔ _
 rw [iand_nat (y:=1) (by omega) (by omega),Nat.and_one_is_mod,Nat.testBit_eq_decide_div_mod_eq,decide_eq_true_iff]
 omega
def bl (R s:Nat):List Int:=((List.range R).filter fun i=>s.testBit i).map fun (i:Nat)=>(i:Int)
theorem bl_mem {R s:Nat} {x:Int} :x ∈ bl R s ↔ 0<=x/\x<R/\s.testBit x.toNat=true:=by
 unfold bl
 rw [List.mem_map]
 constructor
 ·rintro ⟨i,hi,rfl⟩
  obtain ⟨a,b⟩:=List.mem_filter.1 hi
  have:=List.mem_range.1 a
  exact ⟨by omega,by omega,by simpa using b⟩
 ·rintro ⟨a,b,c⟩
  exact ⟨x.toNat,List.mem_filter.2 ⟨List.mem_range.2 (by omega),c⟩,by omega⟩
theorem bl_sub {R s:Nat} :(bl R s).Sublist ((List.range R).map fun (i:Nat)=>(i:Int)):=List.filter_sublist.map _
theorem bl_se {R s:Nat} :Se R (bl R s):=(Se.all R).sub bl_sub
theorem bl_top {R T s:Nat} (hs:s<2 ^ R) (hT:R<=T):bl T s=bl R s:=bl_se.ext bl_se fun x=>by
 rw [bl_mem,bl_mem]
 constructor
 ·rintro ⟨a,b,c⟩
  refine ⟨a,?_,c⟩
  rcases Nat.lt_or_ge x.toNat R with g | g
  ·omega
  ·rw [Nat.testBit_lt_two_pow (Nat.lt_of_lt_of_le hs (Nat.pow_le_pow_right (by omega) g))] at c
   cases c
 ·rintro ⟨a,b,c⟩
  exact ⟨a,by omega,c⟩
theorem bl_inj {R s s':Nat} (hs:s<2 ^ R) (hs':s'<2 ^ R) (e:bl R s=bl R s'):s=s':=Nat.eq_of_testBit_eq fun i=>by
 rcases Nat.lt_or_ge i R with g | g
 ·have h1:=bl_mem (R:=R) (s:=s) (x:=i)
  have h2:=bl_mem (R:=R) (s:=s') (x:=i)
  rw [e] at h1
  have:=h1.symm.trans h2
  simp only [Int.toNat_natCast] at this
  have a:(s.testBit i=true ↔ s'.testBit i=true):=⟨fun k=>(this.1 ⟨by omega,by omega,k⟩).2.2,fun k=>(this.2 ⟨by omega,by omega,k⟩).2.2⟩
  cases h:s.testBit i <;> cases h':s'.testBit i <;> simp [h,h'] at a |-
 ·rw [Nat.testBit_lt_two_pow (Nat.lt_of_lt_of_le hs (Nat.pow_le_pow_right (by omega) g)),Nat.testBit_lt_two_pow (Nat.lt_of_lt_of_le hs' (Nat.pow_le_pow_right (by omega) g))]
def nm (l:List Int) (v:Nat):Nat:=l.foldl (fun v x=>v ||| 2 ^ x.toNat) v
theorem nm_bit:∀ {l:List Int} {v i:Nat},(∀ x,x ∈ l->0<=x)->((nm l v).testBit i=true ↔ v.testBit i=true\/(i:Int) ∈ l)
 | [],v,i,_=>by simp [nm]
 | x ::l,v,i,h=>by
  have hx:=h x (List.mem_cons_self ..)
  unfold nm
  rw [List.foldl_cons]
  have:=nm_bit (l:=l) (v:=v ||| 2 ^ x.toNat) (i:=i) fun y hy=>h y (List.mem_cons_of_mem _ hy)
  unfold nm at this
  rw [this,Nat.testBit_or,Nat.testBit_two_pow,List.mem_cons,Bool.or_eq_true,decide_eq_true_iff,or_assoc]
  have:x.toNat=i ↔ (i:Int)=x:=by omega
  rw [this]
theorem nm_lt {l:List Int} {R:Nat} (h:Se R l):nm l 0<2 ^ R:=Nat.lt_pow_two_of_testBit _ fun i hi=>by
 cases e:(nm l 0).testBit i with
 | false=>rfl
 | true=>
  rw [nm_bit fun x hx=>(h.lt x hx).1] at e
  rcases e with e | e
  ·simp at e
  ·have:=h.lt _ e;omega
theorem nm_bl {l:List Int} {R:Nat} (h:Se R l):bl R (nm l 0)=l:=bl_se.ext h fun x=>by
 rw [bl_mem,nm_bit fun x hx=>(h.lt x hx).1]
 constructor
 ·rintro ⟨a,b,c | c⟩
  ·simp at c
  ·rwa [show ((x.toNat:Nat):Int)=x by omega] at c
 ·intro hx
  have:=h.lt x hx
  exact ⟨this.1,this.2,.inr (by rwa [show ((x.toNat:Nat):Int)=x by omega])⟩
theorem listed_run {R s:Nat} {Q:List Int->Prop} (h10:R<=10) (hs:s<2 ^ R) (H:Q (bl R s)):(ref28_listed.f (s:Int)).run Q:=by
 have s10:s<2 ^ 10:=Nat.lt_of_lt_of_le hs (Nat.pow_le_pow_right (by omega) h10)
 unfold ref28_listed.f
 refine W.loop_c (fun st:List Int×Int=>∃ t:Nat,st.2=t/\t<=10/\st.1=bl t s) (fun st=>10 - st.2.toNat) ⟨0,rfl,Nat.zero_le _,rfl⟩ ?_
 rintro ⟨_,_⟩ P ⟨t,rfl,ht,rfl⟩ hgo hbrk hout
 simp only at hgo hbrk |-
 unfold ref28_listed.l1 ref28_listed.j2
 have bt:=bit_iff (x:=s) (i:=t) (by omega) (by omega)
 rw [ishrN (by omega)] at bt |-
 have bl10:(bl t s).length<=t:=bl_se.len
 refine W.req_i (by omega) (W.run_if (fun c=>?_) fun c=>hbrk _ ?_)
 ·have t9:t<10:=by
   rcases Nat.lt_or_ge t 10 with g | g
   ·exact g
   ·have:s / 2 ^ t=0:=Nat.div_eq_of_lt (Nat.lt_of_lt_of_le s10 (Nat.pow_le_pow_right (by omega) g))
    rw [this] at c;exact absurd c (by decide)
  refine W.req_i (by omega) (W.run_if (fun c2=>W.req_i (by omega) (W.req_i (by show _/\_;omega) (hgo _ ⟨t+1,by simp,by omega,?_⟩ (by simp;omega)))) fun c2=>W.req_i (by show _/\_;omega) (hgo _ ⟨t+1,by simp,by omega,?_⟩ (by simp;omega)))
  ·rw [bt] at c2
   show _ ++ _=_
   unfold bl
   rw [fil_snoc,if_pos c2,List.map_append];rfl
  ·rw [bt] at c2
   show _=_
   unfold bl
   rw [fil_snoc,if_neg c2]
 ·unfold ref28_listed.j1
  have z:s / 2 ^ t=0:=Nat.eq_zero_of_not_pos fun g=>c (Int.ofNat_lt.2 g)
  have st:s<2 ^ t:=by
   rcases (Nat.div_eq_zero_iff).1 z with g | g
   ·have:=Nat.pow_pos (n:=t) (show 0<2 by omega);omega
   ·exact g
  show Q (bl t s)
  rcases Nat.le_total R t with g | g
  ·rw [bl_top hs g];exact H
  ·rw [<- bl_top st g];exact H
theorem sorted_run {l:List (List Int)} {Q:List (List Int)->Prop} (hn:l.Nodup) (hd:∀ x,x ∈ l->D10 x) (H:∀ l':List (List Int),l'.Perm l->l'.Pairwise Lt->Q l'):(ref28_sorted.f l).run Q:=by
 unfold ref28_sorted.f
 refine W.loop_c (fun st:List (List Int)×Int=>∃ i:Nat,st.2=i/\1<=i/\(i<=st.1.length\/i=1)/\st.1.Perm l/\∀ a b,a<b->b<i->b<st.1.length->Lt (gd st.1 a) (gd st.1 b)) (fun st=>l.length+1 - st.2.toNat) ⟨1,rfl,by omega,by omega,List.Perm.refl _,fun a b h1 h2=>by omega⟩ ?_
 rintro ⟨l1,_⟩ P ⟨i,rfl,h1,hi,hp,hs⟩ hgo hbrk hout
 simp only at hi hp hs hgo hbrk |-
 unfold ref28_sorted.l1
 refine W.run_if (fun c=>?_) fun c=>hbrk _ ?_
 ·have ll:=hp.length_eq
  refine W.loop_c (fun st:List (List Int)×Int=>∃ j:Nat,st.2=j/\j<=i/\st.1.Perm l/\(∀ a b,a<b->b<=i->a≠j->b≠j->Lt (gd st.1 a) (gd st.1 b))/\∀ b,j<b->b<=i->Lt (gd st.1 j) (gd st.1 b)) (fun st=>st.2.toNat) ⟨i,rfl,Nat.le_refl _,hp,fun a b h1 h2 h3 h4=>hs a b h1 (by omega) (by omega),fun b h1 h2=>by omega⟩ ?_
  rintro ⟨l2,_⟩ P2 ⟨j,rfl,hj,hp2,hA,hB⟩ hgo2 hbrk2 hout2
  simp only at hp2 hA hB hgo2 hbrk2 |-
  have l2l:=hp2.length_eq
  have done:(∀ a,a<j->Lt (gd l2 a) (gd l2 j))->P2 (.brk (l2,(j:Int))):=fun h=>hbrk2 _ (hgo _ ⟨i+1,by simp,by omega,.inl (by simp only;omega),hp2,fun a b h1 h2 h3=>by
   by_cases ea:a=j
   ·rw [ea];exact hB b (by omega) (by omega)
   ·by_cases eb:b=j
    ·rw [eb] at h1 |-;exact h a h1
    ·exact hA a b h1 (by omega) ea eb⟩ (by simp;omega))
  unfold ref28_sorted.l2
  refine W.run_if (fun c2=>?_) fun c2=>done fun a ha=>by omega
  obtain ⟨k,rfl⟩:∃ k,j=k+1:=⟨j - 1,by omega⟩
  rw [show ((k+1:Nat):Int) - 1=(k:Nat) by omega]
  simp only [gi_gd]
  have m1:gd l2 (k+1) ∈ l:=hp2.mem_iff.1 (gd_mem (by omega))
  have m2:gd l2 k ∈ l:=hp2.mem_iff.1 (gd_mem (by omega))
  refine W.req_i (by omega) (W.req_i (by omega) (W.bd (ref28_ahead_run (hd _ m1) (hd _ m2) (W.run_if (fun c3=>W.req_i (by omega) (W.req_i (by omega) (W.req_i (by omega) (W.req_i (by simp;omega) ?_)))) fun c3=>?_))))
  ·have c3:vl (gd l2 (k+1))<vl (gd l2 k):=of_decide_eq_true c3
   simp only [Int.toNat_natCast]
   have g1:k+1<l2.length:=by omega
   have g2:k<l2.length:=by omega
   have e:∀ x,gd ((l2.set (k+1) (gd l2 k)).set k (gd l2 (k+1))) x=if x=k then gd l2 (k+1) else if x=k+1 then gd l2 k else gd l2 x:=fun x=>by
    rw [gd_set,gd_set]
    by_cases e1:k=x
    ·subst e1;rw [if_pos (⟨rfl,by simpa using g2⟩:k=k/\_),if_pos (rfl:k=k)]
    ·rw [if_neg fun g=>e1 g.1,if_neg (fun g:x=k=>e1 g.symm)]
     by_cases e2:k+1=x
     ·subst e2;rw [if_pos (⟨rfl,g1⟩:k+1=k+1/\_),if_pos (rfl:k+1=k+1)]
     ·rw [if_neg fun g=>e2 g.1,if_neg (fun g:x=k+1=>e2 g.symm)]
   refine hgo2 _ ⟨k,rfl,by omega,?_,fun a b h1 h2 h3 h4=>?_,fun b h1 h2=>?_⟩ (by simp)
   ·have:=List.set_set_perm (as:=l2) g1 g2
    rw [<- gd_lt g1,<- gd_lt g2] at this
    exact this.trans hp2
   ·simp only [e]
    rw [if_neg h3,if_neg h4]
    by_cases ea:a=k+1
    ·rw [if_pos ea,if_neg (by omega)]
     exact hA k b (by omega) h2 (by omega) (by omega)
    ·rw [if_neg ea]
     by_cases eb:b=k+1
     ·rw [if_pos eb]
      exact hA a k (by omega) (by omega) ea (by omega)
     ·rw [if_neg eb]
      exact hA a b h1 h2 ea eb
   ·simp only [e]
    rw [if_pos trivial,if_neg (by omega)]
    by_cases eb:b=k+1
    ·rw [if_pos eb];exact c3
    ·rw [if_neg eb];exact hB b (by omega) h2
  ·have c3: ¬ Lt (gd l2 (k+1)) (gd l2 k):=fun g:vl (gd l2 (k+1))<vl (gd l2 k)=>c3 (decide_eq_true g)
   have ne:gd l2 k≠gd l2 (k+1):=fun g=>by
    have nd:l2.Nodup:=hp2.nodup_iff.2 hn
    rw [gd_lt (show k<l2.length by omega),gd_lt (show k+1<l2.length by omega)] at g
    exact List.pairwise_iff_getElem.1 nd k (k+1) (by omega) (by omega) (by omega) g
   have kk:Lt (gd l2 k) (gd l2 (k+1)):=by
    unfold Lt at *
    rcases Int.lt_trichotomy (vl (gd l2 k)) (vl (gd l2 (k+1))) with g | g | g
    ·exact g
    ·exact absurd (vl_inj (hd _ m2) (hd _ m1) g) ne
    ·exact absurd g c3
   refine done fun a ha=>?_
   by_cases ea:a=k
   ·rw [ea];exact kk
   ·have:=hA a k (by omega) (by omega) (by omega) (by omega)
    unfold Lt at *
    omega
 ·unfold ref28_sorted.j1
  refine H l1 hp (List.pairwise_iff_getElem.2 fun a b ha hb hab=>?_)
  have:=hs a b hab (by omega) hb
  rwa [gd_lt ha,gd_lt hb] at this
end Go.Proofs.Ytbjnmmgnonldnaa.E
namespace Go.Proofs.Ytbjnmmgnonldnaa.E
open Go Go.RowKit
theorem Same_run {a b:List Int} {Q:Bool->Prop} (H0:a=b->Q true) (H1:a≠b->Q false):(ref14_Same.f a b).run Q:=by
 unfold ref14_Same.f
 refine W.loop_c (fun p=>∃ t:Nat,p=t/\t<=a.length/\t<=b.length/\∀ j,j<t->gd a j=gd b j) (fun p=>a.length - p.toNat) ⟨0,rfl,Nat.zero_le _,Nat.zero_le _,fun j hj=>by omega⟩ ?_
 rintro _ P ⟨t,rfl,ht,ht2,hj⟩ hgo hbrk hout
 unfold ref14_Same.l1
 simp only [gi_gd]
 have done: ¬ (t<a.length/\t<b.length)->P (.brk (t:Int)):=fun h=>hbrk _ (by
  unfold ref14_Same.j1
  show Q _
  by_cases e:a.length=b.length
  ·rw [decide_eq_true (by omega)]
   exact H0 (list_gd_ext e fun k hk=>hj k (by omega))
  ·rw [decide_eq_false (by omega)]
   exact H1 fun g=>e (by rw [g]))
 refine W.run_if (fun c=>W.run_if (fun c2=>W.req_i (by omega) (W.req_i (by omega) (W.run_if (fun c3=>hout _ (H1 fun g=>c3 (by rw [g]))) fun c3=>hgo _ ⟨t+1,by simp,by omega,by omega,fun j hj'=>?_⟩ (by simp;omega)))) fun c2=>done (by omega)) fun c=>done (by omega)
 by_cases e:j=t
 ·rw [e];exact Decidable.not_not.1 c3
 ·exact hj j (by omega)
theorem SameAll_run {a b:List (List Int)} {Q:Bool->Prop} (H0:a=b->Q true) (H1:a≠b->Q false):(ref14_SameAll.f a b).run Q:=by
 unfold ref14_SameAll.f
 refine W.loop_c (fun p=>∃ t:Nat,p=t/\t<=a.length/\t<=b.length/\∀ j,j<t->gd a j=gd b j) (fun p=>a.length - p.toNat) ⟨0,rfl,Nat.zero_le _,Nat.zero_le _,fun j hj=>by omega⟩ ?_
 rintro _ P ⟨t,rfl,ht,ht2,hj⟩ hgo hbrk hout
 unfold ref14_SameAll.l1
 simp only [gi_gd]
 have done: ¬ (t<a.length/\t<b.length)->P (.brk (t:Int)):=fun h=>hbrk _ (by
  unfold ref14_SameAll.j1
  show Q _
  by_cases e:a.length=b.length
  ·rw [decide_eq_true (by omega)]
   exact H0 (list_gd_ext e fun k hk=>hj k (by omega))
  ·rw [decide_eq_false (by omega)]
   exact H1 fun g=>e (by rw [g]))
 refine W.run_if (fun c=>W.run_if (fun c2=>W.req_i (by omega) (W.req_i (by omega) (W.bd (Same_run (fun g=>W.run_if (fun _=>hgo _ ⟨t+1,by simp,by omega,by omega,fun j hj'=>?_⟩ (by simp;omega)) fun c=>absurd rfl c) fun g=>W.run_if (fun c=>by cases c) fun _=>hout _ (H1 fun k=>g (by rw [k])))))) fun c2=>done (by omega)) fun c=>done (by omega)
 by_cases e:j=t
 ·rw [e];exact g
 ·exact hj j (by omega)
end Go.Proofs.Ytbjnmmgnonldnaa.E
namespace Go.Proofs.Ytbjnmmgnonldnaa.E
open Go Go.RowKit
theorem zr_in {E:Nat->List Nat} {n i:Nat} {row col:Nat->Option Nat} {Rs S:Nat->Prop} (hc:Cls E col Rs S) (hu:∀ r,r<n->row r=none->Rs r) (hi:Zr E n row col i):Rs i:=by
 obtain ⟨j,h1,h2,h3⟩:=hi
 induction h3 with
 | refl=>exact hu j h1 h2
 | step _ a b ih=>
  obtain ⟨r,g1,g2⟩:=hc.own _ (hc.nb _ _ ih a)
  rw [b] at g2
  exact Option.some.inj g2 ▸ g1
open Classical in
theorem no_od {L:List (List Int)} {c:Nat} (hR:Rws L c) (f:Nat->Nat) (hf:∀ i,i<L.length->f i ∈ Ef L i) (inj:∀ i j,i<L.length->j<L.length->f i=f j->i=j) (i:Nat): ¬ Od L i:=fun h=>by
 have M:Mch (Ef L) L.length (fun r=>if r<L.length then some (f r) else none) (fun k=>if h:∃ r,r<L.length/\f r=k then some h.choose else none):=by
  refine ⟨⟨fun r k=>⟨fun g=>?_,fun g=>?_⟩,fun r k g=>?_⟩,fun r hr=>if_neg (by omega),fun _=>False,fun _=>False,⟨fun _ _ h=>h.elim,fun _ h=>h.elim⟩,fun _ h=>h.elim,fun r hr g=>?_⟩
  ·skip
   split at g
   ·rename_i hr
    have e:=Option.some.inj g
    have hx:∃ r,r<L.length/\f r=k:=⟨r,hr,e⟩
    rw [dif_pos hx,inj _ r hx.choose_spec.1 hr (hx.choose_spec.2.trans e.symm)]
   ·cases g
  ·skip
   split at g
   ·rename_i hx
    have e:=Option.some.inj g
    rw [<- e,if_pos hx.choose_spec.1,hx.choose_spec.2]
   ·cases g
  ·skip
   split at g
   ·rename_i hr
    rw [<- Option.some.inj g];exact hf r hr
   ·cases g
  ·simp only [if_pos hr] at g;cases g
 obtain ⟨j,h1,h2,_⟩:=(Od.iff hR M).2 h
 simp only [if_pos h1] at h2;cases h2
def d0:api_Diag:=⟨⟨3,2,[[0],[0],[0,1]]⟩,[]⟩
theorem d0_ok:DiagOk d0:=by
 refine ⟨⟨by decide,by decide,by decide,by decide,rfl,fun r hr=>?_⟩,by decide,by decide,fun i hi=>absurd hi (Nat.not_lt_zero _)⟩
 have:r=0\/r=1\/r=2:=by have:r<3:=hr;omega
 rcases this with rfl | rfl | rfl
 ·intro t ht;have:t=0:=by have:t<1:=ht;omega
  subst this;decide
 ·intro t ht;have:t=0:=by have:t<1:=ht;omega
  subst this;decide
 ·intro t ht;have:t=0\/t=1:=by have:t<2:=ht;omega
  rcases this with rfl | rfl <;> decide
theorem d0_rws {s:List Int} (h:Se 3 s):Rws (pick d0.M s) 2:=pick_rws d0_ok.m rfl h
theorem se_of {l:List Int} (h:l.Pairwise (· < ·)) (h2:∀ x,x ∈ l->0<=x/\x<3):Se 3 l:=⟨h,h2⟩
theorem mch3:Mch (Ef [[0],[0],[0,1]]) 3 (fun r=>if r=0 then some 0 else if r=2 then some 1 else none) (fun k=>if k=0 then some 0 else if k=1 then some 2 else none):=by
 refine ⟨⟨fun r k=>?_,fun r k g=>?_⟩,fun r hr=>by rw [if_neg (by omega),if_neg (by omega)],fun r=>r=0\/r=1,fun k=>k=0,⟨fun r k h hk=>?_,fun k h=>⟨0,.inl rfl,by simp [h]⟩⟩,fun r h=>by omega,fun r hr g=>?_⟩
 ·skip
  by_cases h0:r=0
  ·rw [if_pos h0];by_cases k0:k=0
   ·simp [h0,k0]
   ·rw [if_neg k0];split <;> simp [h0] <;> omega
  ·rw [if_neg h0];by_cases h2:r=2
   ·rw [if_pos h2];by_cases k0:k=0
    ·simp [h2,k0]
    ·rw [if_neg k0];split <;> simp [h2] <;> omega
   ·rw [if_neg h2];split
    ·simp;omega
    ·split
     ·simp;omega
     ·simp
 ·skip
  split at g
  ·rename_i e;subst e;rw [<- Option.some.inj g];decide
  ·split at g
   ·rename_i e;subst e;rw [<- Option.some.inj g];decide
   ·cases g
 ·rcases h with rfl | rfl
  ·have:k ∈ [0]:=hk
   simpa using this
  ·have:k ∈ [0]:=hk
   simpa using this
 ·skip
  split at g
  ·cases g
  ·split at g
   ·cases g
   ·omega
theorem od3 {i:Nat} :Od [[0],[0],[0,1]] i ↔ i=0\/i=1:=by
 have hR:Rws [[0],[0],[0,1]] 2:=d0_rws (s:=[0,1,2]) (se_of (by decide) (by decide))
 rw [<- Od.iff hR mch3]
 constructor
 ·exact zr_in (Rs:=fun r=>r=0\/r=1) (S:=fun k=>k=0) ⟨fun r k h hk=>by
   rcases h with rfl | rfl
   ·have:k ∈ [0]:=hk
    simpa using this
   ·have:k ∈ [0]:=hk
    simpa using this,fun k h=>⟨0,.inl rfl,by simp [h]⟩⟩ fun r hr g=>by
   split at g
   ·cases g
   ·split at g
    ·cases g
    ·have:r<3:=hr
     omega
 ·have z1:Zr (Ef [[0],[0],[0,1]]) 3 (fun r=>if r=0 then some 0 else if r=2 then some 1 else none) (fun k=>if k=0 then some 0 else if k=1 then some 2 else none) 1:=⟨1,by omega,rfl,.refl⟩
  rintro (rfl | rfl)
  ·exact z1.step (k:=0) (by decide) rfl
  ·exact z1
theorem oc3 {k:Nat} :Oc [[0],[0],[0,1]] k ↔ k=0:=by
 constructor
 ·rintro ⟨i,h1,h2⟩
  rcases od3.1 h1 with rfl | rfl
  ·have:k ∈ [0]:=h2
   simpa using this
  ·have:k ∈ [0]:=h2
   simpa using this
 ·rintro rfl;exact ⟨0,od3.2 (.inl rfl),by decide⟩
open Classical in
theorem over3:overV (pick d0.M [0,1,2]) 2 [0,1,2] =([0,1],1):=by
 have e:pick d0.M [0,1,2] = [[0],[0],[0,1]]:=rfl
 unfold overV
 rw [e]
 have a:((List.range 3).filter fun t=>decide (Od [[0],[0],[0,1]] t))= [0,1]:=by
  rw [List.filter_congr (q:=fun t=>decide (t=0\/t=1)) fun t _=>by rw [decide_eq_decide];exact od3]
  rw [show List.range 3= [0,1,2] from rfl]
  simp
 have b:((List.range 2).filter fun k=>decide (Oc [[0],[0],[0,1]] k))= [0]:=by
  rw [List.filter_congr (q:=fun k=>decide (k=0)) fun t _=>by rw [decide_eq_decide];exact oc3]
  rw [show List.range 2= [0,1] from rfl]
  simp
 show (List.map _ ((List.range 3).filter _),_)=_
 rw [a,b];rfl
theorem od2 {i:Nat} (hi:i<2):Od [[0],[0]] i:=by
 have hR:Rws [[0],[0]] 2:=d0_rws (s:=[0,1]) (se_of (by decide) (by decide))
 have M:Mch (Ef [[0],[0]]) 2 (fun r=>if r=0 then some 0 else none) (fun k=>if k=0 then some 0 else none):=by
  refine ⟨⟨fun r k=>?_,fun r k g=>?_⟩,fun r hr=>by rw [if_neg (by omega)],fun r=>r=0\/r=1,fun k=>k=0,⟨fun r k h hk=>?_,fun k h=>⟨0,.inl rfl,by simp [h]⟩⟩,fun r h=>by omega,fun r hr g=>by omega⟩
  ·skip
   by_cases h0:r=0
   ·rw [if_pos h0];by_cases k0:k=0
    ·simp [h0,k0]
    ·rw [if_neg k0];simp;omega
   ·rw [if_neg h0];split
    ·simp;omega
    ·simp
  ·skip
   split at g
   ·rename_i e;subst e;rw [<- Option.some.inj g];decide
   ·cases g
  ·rcases h with rfl | rfl
   ·have:k ∈ [0]:=hk
    simpa using this
   ·have:k ∈ [0]:=hk
    simpa using this
 have z1:Zr (Ef [[0],[0]]) 2 (fun r=>if r=0 then some 0 else none) (fun k=>if k=0 then some 0 else none) 1:=⟨1,by omega,rfl,.refl⟩
 refine (Od.iff hR M).1 ?_
 rcases (by omega:i=0\/i=1) with rfl | rfl
 ·exact z1.step (k:=0) (by decide) rfl
 ·exact z1
theorem lst3:lst d0.M [0,1,2] = [[0,1]]:=by
 have s10:Se 10 [0,1,2]:=⟨by decide,by decide⟩
 have T:Tst d0.M [0,1]:=⟨by decide,fun t ht=>od2 ht⟩
 have N1:∀ i:Int,Se 3 [i]->(gi d0.M.E i).length≠0->¬ Tst d0.M [i]:=fun i hs hl h=>by
  have hz:∀ L:List Int,L.length≠0->(L.map Int.toNat).headD 0 ∈ Ef [L] 0:=fun L hL=>by
   cases L with
   | nil=>exact absurd rfl hL
   | cons a L=>exact List.mem_cons_self ..
  exact no_od (d0_rws hs) (fun _=>((gi d0.M.E i).map Int.toNat).headD 0) (fun j hj=>by
   have:j<1:=hj
   obtain rfl:j=0:=by omega
   exact hz _ hl) (fun a b ha hb _=>by
   have:a<1:=ha
   have:b<1:=hb
   omega) 0 (h.2 0 (Nat.zero_lt_succ _))
 have N2:∀ i:Int,i=0\/i=1->¬ Tst d0.M [i,2]:=fun i hi h=>by
  have hs:Se 3 [i,2]:=by rcases hi with rfl | rfl <;> exact ⟨by decide,by decide⟩
  exact no_od (d0_rws hs) (fun j=>j) (fun j hj=>by
   have:j<2:=hj
   rcases hi with rfl | rfl <;> rcases (by omega:j=0\/j=1) with rfl | rfl <;> decide) (fun a b _ _ h=>h) 0 (h.2 0 (Nat.zero_lt_succ _))
 have al:alls [0,1,2] = [[0],[1],[2],[0,1],[0,2],[1,2],[0,1,2]]:=by decide
 refine sorted_ext (R:=Lt) (fun a b h1 h2=>by unfold Lt at *;omega) (lst_pw s10) (List.pairwise_singleton _ _) fun x=>?_
 rw [lst_mem s10,List.mem_singleton]
 constructor
 ·rintro ⟨h1,h2,h3⟩
  have:=mem_alls.2 ⟨h1,h2.1⟩
  rw [al] at this
  simp only [List.mem_cons,List.not_mem_nil,or_false] at this
  rcases this with rfl | rfl | rfl | rfl | rfl | rfl | rfl
  ·exact absurd h2 (N1 0 (se_of (by decide) (by decide)) (by decide))
  ·exact absurd h2 (N1 1 (se_of (by decide) (by decide)) (by decide))
  ·exact absurd h2 (N1 2 (se_of (by decide) (by decide)) (by decide))
  ·rfl
  ·exact absurd h2 (N2 0 (.inl rfl))
  ·exact absurd h2 (N2 1 (.inr rfl))
  ·exact (h3 [0,1] (by decide) T (by decide)).symm
 ·rintro rfl
  refine ⟨by decide,T,fun o ho ht hs=>?_⟩
  have:=mem_alls.2 ⟨ho,ht.1⟩
  rw [al] at this
  simp only [List.mem_cons,List.not_mem_nil,or_false] at this
  rcases this with rfl | rfl | rfl | rfl | rfl | rfl | rfl
  ·exact absurd ht (N1 0 (se_of (by decide) (by decide)) (by decide))
  ·exact absurd ht (N1 1 (se_of (by decide) (by decide)) (by decide))
  ·exact absurd hs (by decide)
  ·rfl
  ·exact absurd hs (by decide)
  ·exact absurd hs (by decide)
  ·exact absurd hs (by decide)
theorem known_run {Q:Bool->Prop} (H:Q true):(law28_known.f).run Q:=by
 unfold law28_known.f
 refine W.bd (fault_Redundant_run (d:=d0) d0_ok fun o ho=>?_)
 have ho:o=([0,1],1):=ho.trans over3
 subst ho
 refine W.bd (fault_Tests_run (d:=d0) fun e he=>?_)
 obtain rfl:e=0:=he.uniq (.inl ⟨rfl,d0_ok⟩)
 have:tsV d0 5 0=([[0,1]],false,0):=by
  unfold tsV
  rw [if_neg (by decide),if_neg (by decide)]
  show (if (5:Int)<((lst d0.M [0,1,2]).length:Int) then _ else (lst d0.M [0,1,2],false,(0:Int)))=_
  rw [lst3];rfl
 rw [this]
 refine W.bd (Same_run (fun _=>W.run_if (fun _=>W.run_if (fun _=>W.run_if (fun _=>W.bd (SameAll_run (fun _=>W.run_if (fun _=>W.run_if (fun c=>by cases c) fun _=>?_) fun c=>absurd rfl c) fun g=>absurd rfl g)) fun c=>absurd rfl c) fun c=>absurd rfl c) fun c=>absurd rfl c) fun g=>absurd rfl g)
 exact H
end Go.Proofs.Ytbjnmmgnonldnaa.E
