/- The program's integers: words, sum and difference. -/
import Derived.Test.YtgbmmbfminafnaaKM7
set_option linter.unusedVariables false
set_option linter.unusedSimpArgs false
namespace Go.Proofs.Ytgbmmbfminafnaa.E
open Go Go.RowKit
structure ZRep (z:num_Z) (n:Int):Prop where
 v:I64 z.v
 sm:z.m= []->n=z.v
 bg:z.m≠[]->WRep ⟨z.m,z.neg⟩ n/\9223372036854775808<=wv z.m
theorem ZRep.int {n:Int} (h:I64 n):ZRep ⟨n,[],false⟩ n:=⟨h,fun _=>rfl,fun e=>absurd rfl e⟩
section
variable {a b:num_Z} {x y:Int} {Q:num_Z->Prop}
theorem num_I_run {n:Int} (hn:I64 n) (H:∀ z,ZRep z n->Q z):(num_I.f n).run Q:=H _ (ZRep.int hn)
theorem num_words_run {Q:List Int×Bool->Prop} (h:ZRep a x) (H:∀ m neg,WRep ⟨m,neg⟩ x->Q (m,neg)):(num_Z_words.f a).run Q:=by
 have hv:=i64_iff.1 h.v
 unfold num_Z_words.f
 refine W.run_if (fun c=>?_) (fun c=>H _ _ (h.bg c).1)
 have hx:=h.sm c
 have go:∀ u,u=(x.natAbs:Int)->(num_Z_words.j1 a u).run Q:=by
  intro u hu
  unfold num_Z_words.j1
  rw [ishr64_32]
  have hd:decide (a.v<0)=true ↔ x<0:=by rw [hx];simp
  refine W.run_if (fun c1=>H _ _ ⟨Wd.nil,Tr.nil,?_,fun e=>by simp at e⟩) (fun c1=>W.run_if (fun c2=>H _ _ ⟨Wd.one (by omega),fun _=>?_,?_,fun _=>by simp⟩) (fun c2=>H _ _ ⟨Wd.two (by omega) (by omega),fun _=>?_,?_,fun _=>by simp⟩))
  ·simp [wv_nil];omega
  ·show u % 4294967296≠0
   omega
  ·simp only [hd,wv_sing]
   split <;> omega
  ·show u / 4294967296 % 4294967296≠0
   omega
  ·simp only [hd,wv_two]
   split <;> omega
 refine W.run_if (fun c1=>go _ (by omega)) (fun c1=>go _ (by omega))
theorem num_made_run {m:List Int} {neg:Bool} (hm:Wd (gn m)) (H:∀ z,ZRep z (if neg=true then - wv m else wv m)->Q z):(num_made.f m neg).run Q:=by
 unfold num_made.f
 refine W.bd (trim_loop (p:=fun z=>(Lp.on (fun s=>num_made.j1 neg s) (fun r=>W.ret r) z).run Q) hm fun r t1 t2 t3 t4 t5=>?_)
 rw [<- t3] at H
 have h0:=wv_nonneg t2
 have large:9223372036854775808<=wv r->(num_made.j2 r neg ⟨0,[],false⟩).run Q:=by
  intro hl
  have hne:r≠[]:=fun e=>by rw [e,wv_nil] at hl;omega
  exact W.req_i hne (H _ ⟨(by show _/\_;omega:I64 0),fun e=>absurd e hne,fun _=>⟨⟨t2,t1,rfl,fun _=>hne⟩,hl⟩⟩)
 show (num_made.j1 neg r).run Q
 unfold num_made.j1
 refine W.run_if (fun c=>?_) (fun c=>large ?_)
 ·refine W.loop_c (fun s:Int×Int=>∃ i:Nat,s.2=(i:Int) - 1/\i<=r.length/\s.1=sv (gn r) i (r.length - i)) (fun s=>(s.2+1).toNat) ⟨r.length,rfl,Nat.le_refl _,by rw [Nat.sub_self];rfl⟩ ?_
  rintro ⟨u,_⟩ P ⟨i,rfl,hi,hu⟩ hgo hbrk hout
  simp only at hu hgo |-
  unfold num_made.l1
  refine W.run_if (fun c2=>?_) (fun c2=>hbrk _ ?_)
  ·obtain ⟨j,rfl⟩:∃ j,i=j+1:=⟨i - 1,by omega⟩
   have e:((j+1:Nat):Int) - 1=(j:Int):=by omega
   rw [e,gi_nat]
   have hj:=t2 j
   have hu0:0<=u/\u<4294967296:=by
    rw [hu]
    have h1:=sv_nonneg t2 (j+1) (r.length - (j+1))
    have h2:=sv_lt t2 (j+1) (r.length - (j+1))
    have h3:=bmono (i:=r.length - (j+1)) (j:=1) (by omega)
    rw [Int.pow_one] at h3
    omega
   rw [ior64_32 hu0.1 hu0.2 hj.1 hj.2]
   refine W.req_i (by omega) (hgo _ ⟨j,rfl,by omega,?_⟩ (by simp only;omega))
   simp only
   rw [show r.length - j=(r.length - (j+1))+1 by omega,sv_cons,<- hu]
   omega
  ·obtain rfl:i=0:=by omega
   have hu':u=wv r:=hu
   subst hu'
   unfold num_made.j3
   simp only
   refine W.run_if (fun c3=>?_) (fun c3=>large (by omega))
   rw [wrap_i64 (by omega) c3]
   refine W.run_if (fun c4=>W.req_i (by show _/\_;omega) (H _ ?_)) (fun c4=>H _ ?_)
   ·rw [if_pos c4];exact ZRep.int (by show _/\_;omega)
   ·rw [if_neg c4];exact ZRep.int (by show _/\_;omega)
 ·have h1:=t1.ge t2 (fun e=>by rw [e] at c;simp at c)
  have h2:=bmono (i:=2) (j:=r.length - 1) (by omega)
  rw [show (4294967296:Int) ^ 2=18446744073709551616 from by decide] at h2
  omega
def sgn (n:Int):Int:=if n<0 then -1 else if n=0 then 0 else 1
theorem num_Sign_run {Q:Int->Prop} (h:ZRep a x) (H:Q (sgn x)):(num_Z_Sign.f a).run Q:=by
 unfold num_Z_Sign.f num_Z_Sign.j1
 have neg:x<0->Q (-1):=fun e=>by unfold sgn at H;rwa [if_pos e] at H
 have zero:x=0->Q 0:=fun e=>by unfold sgn at H;rwa [if_neg (by omega),if_pos e] at H
 have pos:0<x->Q 1:=fun e=>by unfold sgn at H;rwa [if_neg (by omega),if_neg (by omega)] at H
 refine W.run_if (fun c=>?_) (fun c=>?_)
 ·have hx:=h.sm c
  refine W.run_if (fun c2=>?_) (fun c2=>?_)
  ·rw [if_pos rfl];exact neg (by omega)
  ·rw [if_neg (by simp),if_pos c]
   exact W.run_if (fun c3=>zero (by omega)) (fun c3=>pos (by omega))
 ·obtain ⟨hw,hl⟩:=h.bg c
  have hn:=hw.neg_iff
  have ha:=hw.abs
  simp only at hn ha
  refine W.run_if (fun c2=>?_) (fun c2=>?_)
  ·rw [if_pos rfl];exact neg (hn.1 c2)
  ·rw [if_neg (by simp),if_neg c]
   have: ¬ x<0:=fun e=>c2 (hn.2 e)
   exact pos (by omega)
theorem num_Neg_run (h:ZRep a x) (H:∀ z,ZRep z (-x)->Q z):(num_Z_Neg.f a).run Q:=by
 have hv:=i64_iff.1 h.v
 have slow:(num_Z_Neg.j1 a ⟨0,[],false⟩).run Q:=by
  unfold num_Z_Neg.j1
  refine W.bd (num_words_run h fun m neg hw=>W.bd (num_made_run hw.wd fun z hz=>H z ?_))
  have hval:=hw.val
  simp only at hval hz |-
  have e:(if (!neg)=true then - wv m else wv m)= -x:=by rw [hval];cases neg <;> simp
  rwa [e] at hz
 unfold num_Z_Neg.f
 refine W.run_if (fun c=>W.run_if (fun c2=>W.req_i (by show _/\_;omega) (H _ ?_)) (fun c2=>slow)) (fun c=>slow)
 rw [h.sm c]
 exact ZRep.int (by show _/\_;omega)
theorem num_Abs_run (h:ZRep a x) (H:∀ z,ZRep z (x.natAbs:Int)->Q z):(num_Z_Abs.f a).run Q:=by
 unfold num_Z_Abs.f
 refine W.bd (num_Sign_run h (W.run_if (fun c=>W.bd (num_Neg_run h fun z hz=>H z ?_)) (fun c=>H _ ?_)))
 ·have:x<0:=by unfold sgn at c;split at c <;> omega
  rwa [show (x.natAbs:Int)= -x by omega]
 ·have: ¬ x<0:=fun e=>c (by unfold sgn;rw [if_pos e];decide)
  rwa [show (x.natAbs:Int)=x by omega]
theorem num_cmpWords_run {a b:List Int} {Q:Int->Prop} (wa:Wd (gn a)) (wb:Wd (gn b)) (ta:Tr a) (tb:Tr b) (H:∀ r,Cmp3 r (wv a) (wv b)->Q r):(num_cmpWords.f a b).run Q:=by
 unfold num_cmpWords.f
 refine W.run_if (fun c=>W.run_if (fun c2=>H _ (.inl ⟨rfl,tb.len_lt wa wb (by omega)⟩)) (fun c2=>H _ (.inr (.inr ⟨rfl,ta.len_lt wb wa (by omega)⟩)))) (fun c=>?_)
 have hl:a.length=b.length:=by omega
 refine W.loop_c (fun p=>∃ i:Nat,p=(i:Int) - 1/\i<=a.length/\∀ k,i<=k->gn a k=gn b k) (fun p=>(p+1).toNat) ⟨a.length,rfl,Nat.le_refl _,fun k hk=>by rw [gn_ge hk,gn_ge (by omega)]⟩ ?_
 rintro _ P ⟨i,rfl,hi,he⟩ hgo hbrk hout
 unfold num_cmpWords.l1
 refine W.run_if (fun c=>?_) (fun c=>?_)
 ·obtain ⟨j,rfl⟩:∃ j,i=j+1:=⟨i - 1,by omega⟩
  have e:((j+1:Nat):Int) - 1=(j:Int):=by omega
  rw [e,gi_nat,gi_nat]
  refine W.req_i (by omega) (W.req_i (by omega) (W.run_if (fun c2=>W.req_i (by omega) (W.req_i (by omega) (W.run_if (fun c3=>?_) (fun c3=>?_)))) (fun c2=>?_)))
  ·refine hout _ (H _ (.inl ⟨rfl,?_⟩))
   rw [wv,wv,<- hl]
   exact sv_less wa wb (i:=j) (by omega) (fun k h1 h2=>he k (by omega)) c3
  ·refine hout _ (H _ (.inr (.inr ⟨rfl,?_⟩)))
   rw [wv,wv,<- hl]
   exact sv_less wb wa (i:=j) (by omega) (fun k h1 h2=>(he k (by omega)).symm) (by omega)
  ·refine hgo _ ⟨j,rfl,by omega,fun k hk=>?_⟩ (by omega)
   by_cases e:k=j
   ·subst e;omega
   ·exact he k (by omega)
 ·refine hbrk _ (H _ (.inr (.inl ⟨rfl,?_⟩)))
  rw [wv,wv,<- hl]
  exact sv_congr fun k _ _=>he k (by omega)
theorem num_addWords_run {a b:List Int} {Q:List Int->Prop} (wa:Wd (gn a)) (wb:Wd (gn b)) (la:a.length<=1099511627776) (lb:b.length<=1099511627776) (H:∀ r,Wd (gn r)->wv r=wv a+wv b->Q r):(num_addWords.f a b).run Q:=by
 have go:∀ a b:List Int,Wd (gn a)->Wd (gn b)->a.length<=1099511627776->b.length<=a.length->(∀ r,Wd (gn r)->wv r=wv a+wv b->Q r)->(num_addWords.j1 a b).run Q:=by
  intro a b wa wb la lb H
  unfold num_addWords.j1
  refine W.req_i (by omega) ?_
  refine W.loop_c (fun s:List Int×Int×Int=>s.2.2=s.1.length/\s.1.length<=a.length/\0<=s.2.1/\s.2.1<=1/\Wd (gn s.1)/\wv s.1+4294967296 ^ s.1.length*s.2.1=sv (gn a) 0 s.1.length+sv (gn b) 0 s.1.length) (fun s=>a.length - s.1.length) ⟨rfl,Nat.zero_le _,by simp,by simp,Wd.nil,by simp [wv,sv]⟩ ?_
  rintro ⟨out,c,q⟩ P ⟨h0,h1,h2,h3,h4,h5⟩ hgo hbrk hout
  obtain rfl:q=(out.length:Int):=h0
  simp only at h1 h2 h3 h4 h5 hgo |-
  have hwa:=wa out.length
  have hwb:=wb out.length
  have round:out.length<a.length->∀ x,x=c+gn a out.length+gn b out.length->(num_addWords.j3 out (out.length:Int) x).run P:=by
   rintro hlt x rfl
   refine W.req_i (by omega) (hgo _ ⟨by simp,by simp;omega,?_,?_,h4.app (Wd.one (by omega)),?_⟩ (by simp;omega))
   ·show 0<=ishr .u64 _ 32
    rw [ishr64_32];omega
   ·show ishr .u64 _ 32<=1
    rw [ishr64_32];omega
   ·show wv (out ++ [_])+4294967296 ^ (out ++ [_]).length*ishr .u64 _ 32=sv (gn a) 0 (out ++ [_]).length+sv (gn b) 0 (out ++ [_]).length
    rw [ishr64_32,wv_snoc,List.length_append,List.length_singleton,sv,sv,Nat.zero_add,bsucc]
    have:=Int.emod_add_mul_ediv (c+gn a out.length+gn b out.length) 4294967296
    grind
  unfold num_addWords.l1
  rw [gi_nat,gi_nat]
  refine W.run_if (fun c1=>W.req_i (by omega) (W.run_if (fun c2=>W.req_i (by omega) (round (by omega) _ (by omega))) (fun c2=>round (by omega) _ (by rw [gn_ge (l:=b) (by omega)];omega)))) (fun c1=>hbrk _ ?_)
  have hc:c % 4294967296=c:=by omega
  refine W.req_i (by simp only;omega) (H _ (h4.app (Wd.one (by omega))) ?_)
  simp only
  rw [wv_snoc,hc,h5,wv_sv (by omega),wv_sv (by omega)]
 unfold num_addWords.f
 exact W.run_if (fun c=>go b a wb wa lb (by omega) fun r h1 h2=>H r h1 (by omega)) (fun c=>go a b wa wb la (by omega) H)
theorem num_subWords_run {a b:List Int} {Q:List Int->Prop} (wa:Wd (gn a)) (wb:Wd (gn b)) (tb:Tr b) (hle:wv b<=wv a) (la:a.length<=1099511627776) (H:∀ r,Wd (gn r)->wv r=wv a - wv b->Q r):(num_subWords.f a b).run Q:=by
 have hba:=tb.len_le wa wb hle
 unfold num_subWords.f
 refine W.req_i (by omega) ?_
 refine W.loop_c (fun s:List Int×Int×Int=>s.2.2=s.1.length/\s.1.length<=a.length/\0<=s.2.1/\s.2.1<=1/\Wd (gn s.1)/\wv s.1 - 4294967296 ^ s.1.length*s.2.1=sv (gn a) 0 s.1.length - sv (gn b) 0 s.1.length) (fun s=>a.length - s.1.length) ⟨rfl,Nat.zero_le _,by simp,by simp,Wd.nil,by simp [wv,sv]⟩ ?_
 rintro ⟨out,c,q⟩ P ⟨h0,h1,h2,h3,h4,h5⟩ hgo hbrk hout
 obtain rfl:q=(out.length:Int):=h0
 simp only at h1 h2 h3 h4 h5 hgo |-
 have hwa:=wa out.length
 have hwb:=wb out.length
 have round:out.length<a.length->∀ x,x=gn a out.length - c - gn b out.length->(num_subWords.j2 out (out.length:Int) x).run P:=by
  rintro hlt x hx
  have last:∀ bo d,0<=bo->bo<=1->d=x+4294967296*bo->0<=d->d<4294967296->(num_subWords.j3 out (out.length:Int) bo d).run P:=by
   intro bo d b0 b1 hd d0 d1
   refine W.req_i (by omega) (hgo _ ⟨by simp,by simp;omega,b0,b1,h4.app (Wd.one (by omega)),?_⟩ (by simp;omega))
   show wv (out ++ [_]) - 4294967296 ^ (out ++ [_]).length*bo=sv (gn a) 0 (out ++ [_]).length - sv (gn b) 0 (out ++ [_]).length
   rw [wv_snoc,List.length_append,List.length_singleton,sv,sv,Nat.zero_add,bsucc,show d % 4294967296=d by omega]
   grind
  exact W.run_if (fun c2=>W.req_i (by show _/\_;omega) (last 1 _ (by omega) (by omega) (by omega) (by omega) (by omega))) (fun c2=>last 0 _ (by omega) (by omega) (by omega) (by omega) (by omega))
 unfold num_subWords.l1
 rw [gi_nat,gi_nat]
 refine W.run_if (fun c1=>W.req_i (by omega) (W.req_i (by show _/\_;omega) (W.run_if (fun c2=>W.req_i (by omega) (W.req_i (by show _/\_;omega) (round (by omega) _ (by omega)))) (fun c2=>round (by omega) _ (by rw [gn_ge (l:=b) (by omega)];omega))))) (fun c1=>hbrk _ ?_)
 have hl:out.length=a.length:=by omega
 refine H _ h4 ?_
 rw [hl,wv_sv (Nat.le_refl _),wv_sv hba] at h5
 have h6:=wv_lt h4
 have hp:=bpos a.length
 rw [hl] at h6
 have:c=0:=by
  rcases (show c=0\/c=1 by omega) with h | h
  ·exact h
  ·subst h;omega
 subst this
 show wv out=_
 omega
theorem num_Add_run {s:Nat} (ha:ZRep a x) (hb:ZRep b y) (hs:s<=35184372088000) (sx:x.natAbs<2 ^ s) (sy:y.natAbs<2 ^ s) (H:∀ z,ZRep z (x+y)->Q z):(num_Z_Add.f a b).run Q:=by
 have hva:=i64_iff.1 ha.v
 have hvb:=i64_iff.1 hb.v
 have slow:(num_Z_Add.j1 a b ⟨0,[],false⟩).run Q:=by
  unfold num_Z_Add.j1
  refine W.bd (num_words_run ha fun m1 n1 w1=>W.bd (num_words_run hb fun m2 n2 w2=>?_))
  have v1:=w1.val
  have v2:=w2.val
  have l1:=w1.len sx
  have l2:=w2.len sy
  have d1:=w1.wd
  have d2:=w2.wd
  have t1:=w1.tr
  have t2:=w2.tr
  simp only at v1 v2 l1 l2 d1 d2 t1 t2 |-
  refine W.run_if (fun c=>W.bd (num_addWords_run d1 d2 (by omega) (by omega) fun r u1 u2=>W.bd (num_made_run u1 fun z hz=>H z ?_))) (fun c=>W.bd (num_cmpWords_run d1 d2 t1 t2 fun r hr=>W.run_if (fun c2=>W.bd (num_subWords_run d1 d2 t2 (by rcases hr with ⟨_,_⟩ | ⟨_,_⟩ | ⟨_,_⟩ <;> omega) (by omega) fun r u1 u2=>W.bd (num_made_run u1 fun z hz=>H z ?_))) (fun c2=>W.bd (num_subWords_run d2 d1 t1 (by rcases hr with ⟨_,_⟩ | ⟨_,_⟩ | ⟨_,_⟩ <;> omega) (by omega) fun r u1 u2=>W.bd (num_made_run u1 fun z hz=>H z ?_)))))
  ·have c':n1=n2:=by simpa using c
   have e:(if n1=true then - wv r else wv r)=x+y:=by
    rw [v1,v2,u2,<- c']
    split <;> omega
   rwa [e] at hz
  ·have c':n1= !n2:=by cases n1 <;> cases n2 <;> simp at c |-
   have e:(if n1=true then - wv r else wv r)=x+y:=by
    rw [v1,v2,u2,c']
    cases n2 <;> simp <;> omega
   rwa [e] at hz
  ·have c':n1= !n2:=by cases n1 <;> cases n2 <;> simp at c |-
   have e:(if n2=true then - wv r else wv r)=x+y:=by
    rw [v1,v2,u2,c']
    cases n2 <;> simp <;> omega
   rwa [e] at hz
 unfold num_Z_Add.f
 refine W.run_if (fun c=>W.run_if (fun c2=>W.run_if (fun c3=>H _ ?_) (fun c3=>slow)) (fun c2=>slow)) (fun c=>slow)
 have e1:=ha.sm c
 have e2:=hb.sm c2
 rw [wrap64_is] at c3 |-
 have c4:(a.v+b.v+9223372036854775808) % 18446744073709551616 - 9223372036854775808>a.v ↔ b.v>0:=by simpa using c3
 have e3:(a.v+b.v+9223372036854775808) % 18446744073709551616 - 9223372036854775808=x+y:=by
  by_cases hp:b.v>0
  ·have:=c4.2 hp;omega
  ·have: ¬ _:=fun h=>hp (c4.1 h);omega
 rw [e3]
 exact ZRep.int (by show _/\_;omega)
theorem num_Sub_run {s:Nat} (ha:ZRep a x) (hb:ZRep b y) (hs:s<=35184372088000) (sx:x.natAbs<2 ^ s) (sy:y.natAbs<2 ^ s) (H:∀ z,ZRep z (x - y)->Q z):(num_Z_Sub.f a b).run Q:=by
 unfold num_Z_Sub.f
 exact W.bd (num_Neg_run hb fun n hn=>W.bd (num_Add_run ha hn hs sx (by rw [Int.natAbs_neg];exact sy) fun z hz=>H z (by rwa [Int.sub_eq_add_neg])))
theorem num_Cmp_run {s:Nat} {Q:Int->Prop} (ha:ZRep a x) (hb:ZRep b y) (hs:s<=35184372088000) (sx:x.natAbs<2 ^ s) (sy:y.natAbs<2 ^ s) (H:Q (sgn (x - y))):(num_Z_Cmp.f a b).run Q:=by
 have slow:(num_Z_Cmp.j1 a b).run Q:=by
  unfold num_Z_Cmp.j1
  exact W.bd (num_Sub_run ha hb hs sx sy fun n hn=>W.bd (num_Sign_run hn H))
 unfold num_Z_Cmp.f
 refine W.run_if (fun c=>W.run_if (fun c2=>?_) (fun c2=>slow)) (fun c=>slow)
 have e1:=ha.sm c
 have e2:=hb.sm c2
 unfold sgn at H
 refine W.run_if (fun c3=>?_) (fun c3=>W.run_if (fun c4=>?_) (fun c4=>?_))
 ·rwa [if_pos (by omega)] at H
 ·rwa [if_neg (by omega),if_neg (by omega)] at H
 ·rwa [if_neg (by omega),if_pos (by omega)] at H
end
end Go.Proofs.Ytgbmmbfminafnaa.E
