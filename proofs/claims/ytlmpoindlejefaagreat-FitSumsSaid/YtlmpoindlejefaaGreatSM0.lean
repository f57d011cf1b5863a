/- Plain facts of words of 32 bits, the lowest first: no program text. -/
import Derived.Test.YtlmpoindlejefaaGreatSE9
namespace Go.Proofs.YtlmpoindlejefaaGreat.E
open Go Go.RowKit
def sv (f:Nat->Int) (j:Nat):Nat->Int
 | 0=>0
 | i+1=>sv f j i+4294967296 ^ i*f (j+i)
def gn (l:List Int) (k:Nat):Int:=l.getD k 0
def wv (l:List Int):Int:=sv (gn l) 0 l.length
def Wd (f:Nat->Int):Prop:=∀ k,0<=f k/\f k<4294967296
theorem bpos (i:Nat):(0:Int)<4294967296 ^ i:=Int.pow_pos (by decide)
theorem bsucc (i:Nat):(4294967296:Int) ^ (i+1)=4294967296*4294967296 ^ i:=by rw [Int.pow_succ,Int.mul_comm]
theorem badd (i j:Nat):(4294967296:Int) ^ (i+j)=4294967296 ^ i*4294967296 ^ j:=Int.pow_add ..
theorem gi_gn (l:List Int) (i:Int):gi l i=gn l i.toNat:=rfl
theorem sv_congr {f g:Nat->Int} {j:Nat} :∀ {i:Nat},(∀ k,j<=k->k<j+i->f k=g k)->sv f j i=sv g j i
 | 0,_=>rfl
 | i+1,h=>by
  rw [sv,sv,sv_congr (i:=i) (fun k h1 h2=>h k h1 (by omega)),h (j+i) (by omega) (by omega)]
theorem sv_nonneg {f:Nat->Int} (hf:Wd f) (j:Nat):∀ i,0<=sv f j i
 | 0=>Int.le_refl _
 | i+1=>by
  have h1:=sv_nonneg hf j i
  have h2:=Int.mul_nonneg (Int.le_of_lt (bpos i)) (hf (j+i)).1
  rw [sv];omega
theorem sv_lt {f:Nat->Int} (hf:Wd f) (j:Nat):∀ i,sv f j i<4294967296 ^ i
 | 0=>by simp [sv]
 | i+1=>by
  have h1:=sv_lt hf j i
  have h2:4294967296 ^ i*f (j+i)<=4294967296 ^ i*4294967295:=Int.mul_le_mul_of_nonneg_left (by have:=(hf (j+i)).2;omega) (Int.le_of_lt (bpos i))
  rw [sv,bsucc];omega
theorem sv_split (f:Nat->Int) (j a:Nat):∀ b,sv f j (a+b)=sv f j a+4294967296 ^ a*sv f (j+a) b
 | 0=>by simp [sv]
 | b+1=>by
  rw [<- Nat.add_assoc,sv,sv_split f j a b,sv,badd,Nat.add_assoc]
  grind
theorem sv_one (f:Nat->Int) (j:Nat):sv f j 1=f j:=by simp [sv]
theorem sv_cons (f:Nat->Int) (j b:Nat):sv f j (b+1)=f j+4294967296*sv f (j+1) b:=by
 have:=sv_split f j 1 b
 rw [Nat.add_comm 1 b,sv_one] at this
 simpa using this
theorem sv_zero {f:Nat->Int} {j:Nat} :∀ {i:Nat},(∀ k,j<=k->k<j+i->f k=0)->sv f j i=0
 | 0,_=>rfl
 | i+1,h=>by rw [sv,sv_zero (i:=i) (fun k h1 h2=>h k h1 (by omega)),h (j+i) (by omega) (by omega)];simp
theorem gn_lt {l:List Int} {k:Nat} (h:k<l.length):gn l k=l[k]:=by simp [gn,List.getD_eq_getElem?_getD,h]
theorem gn_ge {l:List Int} {k:Nat} (h:l.length<=k):gn l k=0:=by simp [gn,List.getD_eq_getElem?_getD,h]
theorem gn_set (l:List Int) (i:Nat) (x:Int) (k:Nat):gn (l.set i x) k=if i=k/\k<l.length then x else gn l k:=by
 simp only [gn,List.getD_eq_getElem?_getD,List.getElem?_set]
 by_cases h:i=k
 ·subst h
  by_cases h2:i<l.length
  ·simp [h2]
  ·simp [h2]
 ·simp [h]
theorem gn_app (l m:List Int) (k:Nat):gn (l ++ m) k=if k<l.length then gn l k else gn m (k - l.length):=by
 simp only [gn,List.getD_eq_getElem?_getD,List.getElem?_append]
 split <;> rfl
theorem gn_take (l:List Int) (n k:Nat):gn (l.take n) k=if k<n then gn l k else 0:=by
 simp only [gn,List.getD_eq_getElem?_getD,List.getElem?_take]
 split <;> simp
theorem gn_rep (n k:Nat):gn (List.replicate n 0) k=0:=by
 simp only [gn,List.getD_eq_getElem?_getD,List.getElem?_replicate]
 split <;> rfl
theorem Wd.of {l:List Int} (h:∀ x ∈ l,0<=x/\x<4294967296):Wd (gn l):=fun k=>by
 by_cases hk:k<l.length
 ·rw [gn_lt hk];exact h _ (List.getElem_mem hk)
 ·rw [gn_ge (by omega)];omega
theorem Wd.set {l:List Int} (h:Wd (gn l)) {i:Nat} {x:Int} (hx:0<=x/\x<4294967296):Wd (gn (l.set i x)):=fun k=>by
 rw [gn_set];split
 ·exact hx
 ·exact h k
theorem Wd.app {l m:List Int} (h:Wd (gn l)) (h':Wd (gn m)):Wd (gn (l ++ m)):=fun k=>by
 rw [gn_app];split
 ·exact h k
 ·exact h' _
theorem Wd.one {x:Int} (hx:0<=x/\x<4294967296):Wd (gn [x]):=Wd.of (by simpa using hx)
theorem Wd.nil:Wd (gn []):=fun k=>by simp [gn]
theorem Wd.take {l:List Int} (h:Wd (gn l)) (n:Nat):Wd (gn (l.take n)):=fun k=>by
 rw [gn_take];split
 ·exact h k
 ·omega
theorem Wd.rep (n:Nat):Wd (gn (List.replicate n 0)):=fun k=>by rw [gn_rep];omega
theorem wv_nil:wv [] =0:=rfl
theorem wv_nonneg {l:List Int} (h:Wd (gn l)):0<=wv l:=sv_nonneg h ..
theorem wv_lt {l:List Int} (h:Wd (gn l)):wv l<4294967296 ^ l.length:=sv_lt h ..
theorem wv_of {l:List Int} {n:Nat} (h:l.length<=n):wv l=sv (gn l) 0 n:=by
 obtain ⟨m,rfl⟩:=Nat.exists_eq_add_of_le h
 rw [sv_split,sv_zero (j:=0+l.length) (fun k h1 _=>gn_ge (by omega))]
 simp [wv]
theorem wv_snoc (l:List Int) (x:Int):wv (l ++ [x])=wv l+4294967296 ^ l.length*x:=by
 rw [wv,List.length_append,List.length_singleton,sv,sv_congr (g:=gn l) (fun k _ h=>by rw [gn_app,if_pos (by omega)]),gn_app,if_neg (by omega)]
 simp [wv,gn]
theorem wv_take (l:List Int) {n:Nat} (h:n<=l.length):wv (l.take n)=sv (gn l) 0 n:=by
 rw [wv,List.length_take,Nat.min_eq_left h]
 exact sv_congr fun k _ hk=>by rw [gn_take,if_pos (by omega)]
theorem wv_sing (x:Int):wv [x] =x:=by rw [wv,List.length_singleton,sv_one];rfl
theorem wv_two (x y:Int):wv [x,y] =x+4294967296*y:=by
 have:=wv_snoc [x] y
 rw [wv_sing] at this
 simpa using this
theorem wv_ge {l:List Int} (h:Wd (gn l)) (h0:l≠[]) (h1:gn l (l.length - 1)≠0):4294967296 ^ (l.length - 1)<=wv l:=by
 obtain ⟨n,hn⟩:∃ n,l.length=n+1:=⟨l.length - 1,by have:=List.length_pos_iff.2 h0;omega⟩
 rw [hn] at h1
 rw [wv,hn,sv]
 have h2:=sv_nonneg h 0 n
 have h3:=h n
 simp only [Nat.add_sub_cancel,Nat.zero_add] at h1 |-
 have:(4294967296:Int) ^ n*1<=4294967296 ^ n*gn l n:=Int.mul_le_mul_of_nonneg_left (by omega) (Int.le_of_lt (bpos n))
 omega
def Tr (l:List Int):Prop:=l≠[]->gn l (l.length - 1)≠0
theorem Tr.nil:Tr []:=fun h=>absurd rfl h
theorem Tr.ge {l:List Int} (ht:Tr l) (h:Wd (gn l)) (h0:l≠[]):4294967296 ^ (l.length - 1)<=wv l:=wv_ge h h0 (ht h0)
theorem Tr.zero {l:List Int} (ht:Tr l) (h:Wd (gn l)):wv l=0 ↔ l= []:=by
 constructor
 ·intro h0
  by_cases hl:l= []
  ·exact hl
  ·have:=ht.ge h hl
   have:=bpos (l.length - 1)
   omega
 ·rintro rfl;rfl
theorem bmono {i j:Nat} (h:i<=j):(4294967296:Int) ^ i<=4294967296 ^ j:=by
 obtain ⟨k,rfl⟩:=Nat.exists_eq_add_of_le h
 rw [badd]
 have h1:=bpos i
 have h2:=bpos k
 have:(4294967296:Int) ^ i*1<=4294967296 ^ i*4294967296 ^ k:=Int.mul_le_mul_of_nonneg_left (by omega) (Int.le_of_lt h1)
 omega
theorem Tr.len_lt {l m:List Int} (hm:Tr m) (hl:Wd (gn l)) (hm':Wd (gn m)) (h:l.length<m.length):wv l<wv m:=by
 have h1:=hm.ge hm' (by intro h0;rw [h0] at h;simp at h)
 have h2:=wv_lt hl
 have:=bmono (i:=l.length) (j:=m.length - 1) (by omega)
 omega
end Go.Proofs.YtlmpoindlejefaaGreat.E
