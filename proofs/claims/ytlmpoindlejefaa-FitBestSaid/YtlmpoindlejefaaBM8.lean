/- The reference's integers. -/
import Derived.Test.YtlmpoindlejefaaBM7
set_option linter.unusedVariables false
set_option linter.unusedSimpArgs false
namespace Go.Proofs.Ytlmpoindlejefaa.E
open Go Go.RowKit
structure WRep (z:zAI) (n:Int):Prop where
 wd:Wd (gn z.d)
 tr:Tr z.d
 val:n=if z.minus=true then - wv z.d else wv z.d
 pos:z.minus=true->z.d≠[]
theorem WRep.abs {z:zAI} {n:Int} (h:WRep z n):wv z.d=n.natAbs:=by
 have h0:=zDi h.wd
 rw [h.val]
 split <;> omega
theorem WRep.neg_iff {z:zAI} {n:Int} (h:WRep z n):z.minus=true ↔ n<0:=by
 have h0:=zDi h.wd
 constructor
 ·intro hm
  have h1: ¬ wv z.d=0:=fun e=>h.pos hm ((h.tr.zero h.wd).1 e)
  rw [h.val,if_pos hm]
  omega
 ·intro hn
  rcases Bool.eq_false_or_eq_true z.minus with e | e
  ·exact e
  ·rw [h.val,e,if_neg (by simp)] at hn
   omega
theorem WRep.nil_iff {z:zAI} {n:Int} (h:WRep z n):z.d= [] ↔ n=0:=by
 rw [<- h.tr.zero h.wd,h.abs]
 omega
theorem WRep.len0 {z:zAI} {n:Int} (h:WRep z n):(z.d.length:Int)=0 ↔ n=0:=by
 rw [<- h.nil_iff]
 constructor
 ·intro e;exact List.eq_nil_of_length_eq_zero (by omega)
 ·intro e;rw [e];rfl
theorem b_p2 (i:Nat):(4294967296:Int) ^ i=2 ^ (32*i):=by
 rw [Int.pow_mul]
 rfl
theorem Tr.bits {l:List Int} (ht:Tr l) (h:Wd (gn l)) {n:Nat} (hn:wv l=n) {s:Nat} (hs:n<2 ^ s):l.length<=s / 32+1:=by
 by_cases h0:l= []
 ·rw [h0];exact Nat.zero_le _
 ·have h1:=ht.ge h h0
  rw [hn,b_p2] at h1
  have h2:2 ^ (32*(l.length - 1))<=n:=by
   have:((2 ^ (32*(l.length - 1)):Nat):Int)<=(n:Int):=by simpa using h1
   exact Int.ofNat_le.1 this
  have h3:32*(l.length - 1)<s:=(Nat.pow_lt_pow_iff_right (by decide)).1 (Nat.lt_of_le_of_lt h2 hs)
  omega
theorem WRep.len {z:zAI} {n:Int} (h:WRep z n) {s:Nat} (hs:n.natAbs<2 ^ s):z.d.length<=s / 32+1:=h.tr.bits h.wd h.abs hs
theorem zA8 {a b:Int} {s t:Nat} (ha:a.natAbs<2 ^ s) (hb:b.natAbs<2 ^ t):(a*b).natAbs<2 ^ (s+t):=by
 rw [Int.natAbs_mul,Nat.pow_add]
 exact Nat.mul_lt_mul'' ha hb
theorem zFe {a b:Int} {s:Nat} (ha:a.natAbs<2 ^ s) (hb:b.natAbs<2 ^ s):(a+b).natAbs<2 ^ (s+1):=by
 have:=Int.natAbs_add_le a b
 rw [Nat.pow_succ]
 omega
theorem zCM {n s t:Nat} (h:n<2 ^ s) (hst:s<=t):n<2 ^ t:=Nat.lt_of_lt_of_le h (Nat.pow_le_pow_right (by decide) hst)
section
variable {a b:zAI} {x y:Int} {Q:zAI->Prop}
theorem zBq {d:List Int} {m:Bool} (hd:Wd (gn d)) (ht:Tr d) (H:∀ z,WRep z (if m=true then - wv d else wv d)->z.d=d->Q z):(zBj.f d m).run Q:=by
 unfold zBj.f
 refine W.run_if (fun c=>H _ ⟨hd,ht,?_,fun e=>?_⟩ rfl) (fun c=>H _ ⟨hd,ht,?_,fun e=>by simp at e⟩ rfl)
 ·subst c
  by_cases h0:d= []
  ·subst h0;rfl
  ·have:=List.length_pos_iff.2 h0
   rw [if_pos rfl,if_pos (by simp;omega)]
 ·simp at e
  exact List.length_pos_iff.1 (by omega)
 ·rw [if_neg c,if_neg (by simp)]
theorem zEf {n:Int} (hn:I64 n) (H:∀ z,WRep z n->Q z):(zBY.f n).run Q:=by
 have hn:=zDI.1 hn
 have go:∀ u,u=(if n<0 then -n else n)->(zBY.j1 n u).run Q:=by
  intro u hu
  have h0:0<=u/\u<18446744073709551616:=by split at hu <;> omega
  unfold zBY.j1
  rw [zBv]
  refine zBf (Wd.two (by omega) (by omega)) fun r t1 t2 t3 t4=>H _ ⟨t2,t1,?_,fun e=>?_⟩
  ·simp only
   rw [t3,zIe]
   by_cases hc:n<0
   ·rw [if_pos (by simpa using hc)]
    rw [if_pos hc] at hu
    omega
   ·rw [if_neg (by simpa using hc)]
    rw [if_neg hc] at hu
    omega
  ·have hc:n<0:=by simpa using e
   rw [if_pos hc] at hu
   intro hr
   have hr:r= []:=hr
   rw [hr,zGJ,zIe] at t3
   omega
 unfold zBY.f
 refine W.run_if (fun c=>go _ ?_) (fun c=>go _ ?_)
 ·rw [if_pos c];omega
 ·rw [if_neg c];omega
theorem zEM (h:WRep a x) (H:∀ z,WRep z (-x)->Q z):(zBx.f a).run Q:=by
 unfold zBx.f
 refine zBq h.wd h.tr fun z hz _=>H z ?_
 have e:(if (!a.minus)=true then - wv a.d else wv a.d)= -x:=by
  rw [h.val]
  cases a.minus <;> simp
 rwa [e] at hz
theorem zC4 {Q:Bool->Prop} (h:WRep a x) (H:Q (decide (x=0))):(zBT.f a).run Q:=by
 unfold zBT.f
 rw [W.ret_r,show decide ((a.d.length:Int)=0)=decide (x=0) from by rw [decide_eq_decide];exact h.len0]
 exact H
theorem zCd {Q:Bool->Prop} (h:WRep a x) (H:Q (decide (x=1))):(zCO.f a).run Q:=by
 unfold zCO.f
 have key:∀ b:Bool,(b=true ↔ x=1)->Q b:=fun b hb=>by
  have:b=decide (x=1):=by
   rw [Bool.eq_iff_iff,hb];simp
  rw [this];exact H
 have ha:=h.abs
 have hm:=h.neg_iff
 refine W.run_if (fun c=>W.req_i (by omega) ?_) (fun c=>key _ ?_)
 ·obtain ⟨d,hd⟩:∃ d,a.d= [d]:=by
   match hh:a.d,c with
   | [d],_=>exact ⟨d,rfl⟩
  rw [hd,zDh] at ha
  rw [hd,show gi [d] 0=d from rfl]
  refine W.run_if (fun c2=>key _ ?_) (fun c2=>key _ ?_)
  ·rw [Bool.not_eq_true',<- Bool.not_eq_true,hm]
   omega
  ·simp;omega
 ·simp
  rintro rfl
  have h1:a.d.length≠0:=fun e=>by
   have:=List.eq_nil_of_length_eq_zero e
   rw [this] at ha;simp [zGJ] at ha
  have h2:=h.tr.ge h.wd (fun e=>h1 (by rw [e];rfl))
  have h3:=bmono (i:=1) (j:=a.d.length - 1) (by omega)
  rw [ha] at h2
  simp at h2 h3
  omega
theorem zFM (ha:WRep a x) (hb:WRep b y) (la:a.d.length<=1099511627776) (lb:b.d.length<=1099511627776) (H:∀ z,WRep z (x+y)->Q z):(zCJ.f a b).run Q:=by
 have va:=ha.val
 have vb:=hb.val
 unfold zCJ.f
 refine W.run_if (fun c=>?_) (fun c=>?_)
 ·refine zGp ha.wd hb.wd la lb fun r t1 t2 t3=>zBq t2 t1 fun z hz _=>H z ?_
  have c':a.minus=b.minus:=by simpa using c
  have e:(if a.minus=true then - wv r else wv r)=x+y:=by
   rw [va,vb,t3,<- c']
   split <;> omega
  rwa [e] at hz
 ·have c':a.minus= !b.minus:=by
   cases h1:a.minus <;> cases h2:b.minus <;> simp [h1,h2] at c |-
  refine zC3 ha.wd hb.wd ha.tr hb.tr fun r hr=>W.run_if (fun c2=>?_) (fun c2=>?_)
  ·have hle:wv b.d<=wv a.d:=by rcases hr with ⟨_,_⟩ | ⟨_,_⟩ | ⟨_,_⟩ <;> omega
   refine zEz ha.wd hb.wd hb.tr hle la fun r t1 t2 t3=>zBq t2 t1 fun z hz _=>H z ?_
   have e:(if a.minus=true then - wv r else wv r)=x+y:=by
    rw [va,vb,t3,c']
    cases b.minus <;> simp <;> omega
   rwa [e] at hz
  ·have hle:wv a.d<=wv b.d:=by rcases hr with ⟨_,_⟩ | ⟨_,_⟩ | ⟨_,_⟩ <;> omega
   refine zEz hb.wd ha.wd ha.tr hle lb fun r t1 t2 t3=>zBq t2 t1 fun z hz _=>H z ?_
   have e:(if b.minus=true then - wv r else wv r)=x+y:=by
    rw [va,vb,t3,c']
    cases b.minus <;> simp <;> omega
   rwa [e] at hz
theorem zCA (ha:WRep a x) (hb:WRep b y) (la:a.d.length<=1099511627776) (lb:b.d.length<=1099511627776) (H:∀ z,WRep z (x*y)->Q z):(zA0.f a b).run Q:=by
 have va:=ha.val
 have vb:=hb.val
 unfold zA0.f
 refine zGP ha.wd hb.wd la lb fun r t1 t2 t3=>zBq t2 t1 fun z hz _=>H z ?_
 have e:(if (!(a.minus == b.minus))=true then - wv r else wv r)=x*y:=by
  rw [va,vb,t3]
  cases a.minus <;> cases b.minus <;> simp [Int.mul_neg,Int.neg_mul]
 rwa [e] at hz
theorem zFj {c d:List Int} {Q:List Int->Prop} (wc:Wd (gn c)) (wd:Wd (gn d)) (tc:Tr c) (td:Tr d) (lc:c.length<=1099511627775) (ld:d.length<=1099511627775) {m n:Nat} (hc:wv c=m) (hd:wv d=n) (H:∀ r,Tr r->Wd (gn r)->wv r=(Nat.gcd m n:Nat)->Q r):(zA6.f c d).run Q:=by
 unfold zA6.f
 refine W.loop_c (fun s:List Int×List Int=>∃ p q:Nat,Wd (gn s.1)/\Wd (gn s.2)/\Tr s.1/\Tr s.2/\s.1.length<=1099511627775/\s.2.length<=1099511627775/\wv s.1=p/\wv s.2=q/\Nat.gcd p q=Nat.gcd m n) (fun s=>(wv s.2).toNat) ⟨m,n,wc,wd,tc,td,lc,ld,hc,hd,rfl⟩ ?_
 rintro ⟨u,v⟩ P ⟨p,q,wu,wv',tu,tv,lu,lv,hp,hq,hg⟩ hgo hbrk hout
 simp only at wu wv' tu tv lu lv hp hq hgo |-
 unfold zA6.l1
 refine W.run_if (fun k=>?_) (fun k=>hbrk _ (H u tu wu ?_))
 ·have hv0:v≠[]:=List.length_pos_iff.1 (by omega)
  have hq0:q≠0:=fun e=>hv0 ((tv.zero wv').1 (by rw [hq,e];rfl))
  refine zDo wu wv' tu tv hv0 lu lv fun q' r t1 t2 w1 w2 e1 e2=>hgo _ ⟨q,p % q,wv',w2,tv,t2,lv,?_,hq,?_,?_⟩ ?_
  ·have hlt:wv r<=wv v:=by
    rw [e2,hp,hq]
    have:=Int.emod_lt_of_pos (p:Int) (show (0:Int)<q by omega)
    omega
   exact Nat.le_trans (t2.len_le wv' w2 hlt) lv
  ·show wv r=_
   rw [e2,hp,hq];rfl
  ·rw [<- hg,Nat.gcd_comm q,<- Nat.gcd_rec,Nat.gcd_comm]
  ·show (wv r).toNat<(wv v).toNat
   rw [e2,hp,hq]
   have:=Int.emod_lt_of_pos (p:Int) (show (0:Int)<q by omega)
   have:=Int.emod_nonneg (p:Int) (show (q:Int)≠0 by omega)
   omega
 ·have:v= []:=List.eq_nil_of_length_eq_zero (by omega)
  subst this
  have e:q=0:=by rw [zGJ] at hq;omega
  subst e
  rw [Nat.gcd_zero_right] at hg
  rw [hp,hg]
end
end Go.Proofs.Ytlmpoindlejefaa.E
