/- Joined. -/
import Derived.Test.YtgbmmbfminafnaaKE9
namespace Go.Proofs.Ytgbmmbfminafnaa.E
open Go Go.RowKit
def sv (f:Nat->Int) (j:Nat):Nat->Int
 | 0=>0
 | i+1=>sv f j i+4294967296 ^ i*f (j+i)
def gn (l:List Int) (k:Nat):Int:=l.getD k 0
def wv (l:List Int):Int:=sv (gn l) 0 l.length
def Wd (f:Nat->Int):Prop:=∀ k,0<=f k/\f k<4294967296
theorem bpos (i:Nat):(0:Int)<4294967296 ^ i:=Int.pow_pos (by decide)
theorem bsucc (i:Nat):(4294967296:Int) ^ (i+1)=4294967296*4294967296 ^ i:=by rw [Int.pow_succ,Int.mul_comm]
theorem badd (i j:Nat):(4294967296:Int) ^ (i+j)=4294967296 ^ i*4294967296 ^ j:=Int.pow_add ..
theorem gi_gn (l:List Int) (i:Int):gi l i=gn l i.toNat:=rfl
theorem sv_congr {f g:Nat->Int} {j:Nat} :∀ {i:Nat},(∀ k,j<=k->k<j+i->f k=g k)->sv f j i=sv g j i
 | 0,_=>rfl
 | i+1,h=>by
  rw [sv,sv,sv_congr (i:=i) (fun k h1 h2=>h k h1 (by omega)),h (j+i) (by omega) (by omega)]
theorem sv_nonneg {f:Nat->Int} (hf:Wd f) (j:Nat):∀ i,0<=sv f j i
 | 0=>Int.le_refl _
 | i+1=>by
  have h1:=sv_nonneg hf j i
  have h2:=Int.mul_nonneg (Int.le_of_lt (bpos i)) (hf (j+i)).1
  rw [sv];omega
theorem sv_lt {f:Nat->Int} (hf:Wd f) (j:Nat):∀ i,sv f j i<4294967296 ^ i
 | 0=>by simp [sv]
 | i+1=>by
  have h1:=sv_lt hf j i
  have h2:4294967296 ^ i*f (j+i)<=4294967296 ^ i*4294967295:=Int.mul_le_mul_of_nonneg_left (by have:=(hf (j+i)).2;omega) (Int.le_of_lt (bpos i))
  rw [sv,bsucc];omega
theorem sv_split (f:Nat->Int) (j a:Nat):∀ b,sv f j (a+b)=sv f j a+4294967296 ^ a*sv f (j+a) b
 | 0=>by simp [sv]
 | b+1=>by
  rw [<- Nat.add_assoc,sv,sv_split f j a b,sv,badd,Nat.add_assoc]
  grind
theorem sv_one (f:Nat->Int) (j:Nat):sv f j 1=f j:=by simp [sv]
theorem sv_cons (f:Nat->Int) (j b:Nat):sv f j (b+1)=f j+4294967296*sv f (j+1) b:=by
 have:=sv_split f j 1 b
 rw [Nat.add_comm 1 b,sv_one] at this
 simpa using this
theorem sv_zero {f:Nat->Int} {j:Nat} :∀ {i:Nat},(∀ k,j<=k->k<j+i->f k=0)->sv f j i=0
 | 0,_=>rfl
 | i+1,h=>by rw [sv,sv_zero (i:=i) (fun k h1 h2=>h k h1 (by omega)),h (j+i) (by omega) (by omega)];simp
theorem gn_lt {l:List Int} {k:Nat} (h:k<l.length):gn l k=l[k]:=by simp [gn,List.getD_eq_getElem?_getD,h]
theorem gn_ge {l:List Int} {k:Nat} (h:l.length<=k):gn l k=0:=by simp [gn,List.getD_eq_getElem?_getD,h]
theorem gn_set (l:List Int) (i:Nat) (x:Int) (k:Nat):gn (l.set i x) k=if i=k/\k<l.length then x else gn l k:=by
 simp only [gn,List.getD_eq_getElem?_getD,List.getElem?_set]
 by_cases h:i=k
 ·subst h
  by_cases h2:i<l.length
  ·simp [h2]
  ·simp [h2]
 ·simp [h]
theorem gn_app (l m:List Int) (k:Nat):gn (l ++ m) k=if k<l.length then gn l k else gn m (k - l.length):=by
 simp only [gn,List.getD_eq_getElem?_getD,List.getElem?_append]
 split <;> rfl
theorem gn_take (l:List Int) (n k:Nat):gn (l.take n) k=if k<n then gn l k else 0:=by
 simp only [gn,List.getD_eq_getElem?_getD,List.getElem?_take]
 split <;> simp
theorem gn_rep (n k:Nat):gn (List.replicate n 0) k=0:=by
 simp only [gn,List.getD_eq_getElem?_getD,List.getElem?_replicate]
 split <;> rfl
theorem Wd.of {l:List Int} (h:∀ x ∈ l,0<=x/\x<4294967296):Wd (gn l):=fun k=>by
 by_cases hk:k<l.length
 ·rw [gn_lt hk];exact h _ (List.getElem_mem hk)
 ·rw [gn_ge (by omega)];omega
theorem Wd.set {l:List Int} (h:Wd (gn l)) {i:Nat} {x:Int} (hx:0<=x/\x<4294967296):Wd (gn (l.set i x)):=fun k=>by
 rw [gn_set];split
 ·exact hx
 ·exact h k
theorem Wd.app {l m:List Int} (h:Wd (gn l)) (h':Wd (gn m)):Wd (gn (l ++ m)):=fun k=>by
 rw [gn_app];split
 ·exact h k
 ·exact h' _
theorem Wd.one {x:Int} (hx:0<=x/\x<4294967296):Wd (gn [x]):=Wd.of (by simpa using hx)
theorem Wd.nil:Wd (gn []):=fun k=>by simp [gn]
theorem Wd.take {l:List Int} (h:Wd (gn l)) (n:Nat):Wd (gn (l.take n)):=fun k=>by
 rw [gn_take];split
 ·exact h k
 ·omega
theorem Wd.rep (n:Nat):Wd (gn (List.replicate n 0)):=fun k=>by rw [gn_rep];omega
theorem wv_nil:wv [] =0:=rfl
theorem wv_nonneg {l:List Int} (h:Wd (gn l)):0<=wv l:=sv_nonneg h ..
theorem wv_lt {l:List Int} (h:Wd (gn l)):wv l<4294967296 ^ l.length:=sv_lt h ..
theorem wv_of {l:List Int} {n:Nat} (h:l.length<=n):wv l=sv (gn l) 0 n:=by
 obtain ⟨m,rfl⟩:=Nat.exists_eq_add_of_le h
 rw [sv_split,sv_zero (j:=0+l.length) (fun k h1 _=>gn_ge (by omega))]
 simp [wv]
theorem wv_snoc (l:List Int) (x:Int):wv (l ++ [x])=wv l+4294967296 ^ l.length*x:=by
 rw [wv,List.length_append,List.length_singleton,sv,sv_congr (g:=gn l) (fun k _ h=>by rw [gn_app,if_pos (by omega)]),gn_app,if_neg (by omega)]
 simp [wv,gn]
theorem wv_take (l:List Int) {n:Nat} (h:n<=l.length):wv (l.take n)=sv (gn l) 0 n:=by
 rw [wv,List.length_take,Nat.min_eq_left h]
 exact sv_congr fun k _ hk=>by rw [gn_take,if_pos (by omega)]
theorem wv_sing (x:Int):wv [x] =x:=by rw [wv,List.length_singleton,sv_one];rfl
theorem wv_two (x y:Int):wv [x,y] =x+4294967296*y:=by
 have:=wv_snoc [x] y
 rw [wv_sing] at this
 simpa using this
theorem wv_ge {l:List Int} (h:Wd (gn l)) (h0:l≠[]) (h1:gn l (l.length - 1)≠0):4294967296 ^ (l.length - 1)<=wv l:=by
 obtain ⟨n,hn⟩:∃ n,l.length=n+1:=⟨l.length - 1,by have:=List.length_pos_iff.2 h0;omega⟩
 rw [hn] at h1
 rw [wv,hn,sv]
 have h2:=sv_nonneg h 0 n
 have h3:=h n
 simp only [Nat.add_sub_cancel,Nat.zero_add] at h1 |-
 have:(4294967296:Int) ^ n*1<=4294967296 ^ n*gn l n:=Int.mul_le_mul_of_nonneg_left (by omega) (Int.le_of_lt (bpos n))
 omega
def Tr (l:List Int):Prop:=l≠[]->gn l (l.length - 1)≠0
theorem Tr.nil:Tr []:=fun h=>absurd rfl h
theorem Tr.ge {l:List Int} (ht:Tr l) (h:Wd (gn l)) (h0:l≠[]):4294967296 ^ (l.length - 1)<=wv l:=wv_ge h h0 (ht h0)
theorem Tr.zero {l:List Int} (ht:Tr l) (h:Wd (gn l)):wv l=0 ↔ l= []:=by
 constructor
 ·intro h0
  by_cases hl:l= []
  ·exact hl
  ·have:=ht.ge h hl
   have:=bpos (l.length - 1)
   omega
 ·rintro rfl;rfl
theorem bmono {i j:Nat} (h:i<=j):(4294967296:Int) ^ i<=4294967296 ^ j:=by
 obtain ⟨k,rfl⟩:=Nat.exists_eq_add_of_le h
 rw [badd]
 have h1:=bpos i
 have h2:=bpos k
 have:(4294967296:Int) ^ i*1<=4294967296 ^ i*4294967296 ^ k:=Int.mul_le_mul_of_nonneg_left (by omega) (Int.le_of_lt h1)
 omega
theorem Tr.len_lt {l m:List Int} (hm:Tr m) (hl:Wd (gn l)) (hm':Wd (gn m)) (h:l.length<m.length):wv l<wv m:=by
 have h1:=hm.ge hm' (by intro h0;rw [h0] at h;simp at h)
 have h2:=wv_lt hl
 have:=bmono (i:=l.length) (j:=m.length - 1) (by omega)
 omega
end Go.Proofs.Ytgbmmbfminafnaa.E
namespace Go.Proofs.Ytgbmmbfminafnaa.E
open Go Go.RowKit
section
variable {B E v1 v2 V V' T u2 U U' q r:Int}
theorem kn_big (hE:0<E) (hV':0<=V') (hV:V=(v1*B+v2)*E+V') (hU':U'<E) (hU:U=(T*B+u2)*E+U') (hq:0<=q) (hT:q*v1+r=T) (h:r*B+u2<q*v2):U<q*V:=by
 have h1:T*B+u2+1<=q*(v1*B+v2):=by subst hT;grind
 have h2:=Int.mul_le_mul_of_nonneg_right h1 (Int.le_of_lt hE)
 have h3:=Int.mul_nonneg hq hV'
 subst hV hU
 grind
theorem kn_ok (hB:0<=B) (hE:0<E) (h1:1<=v1) (h2:0<=v2) (hV':0<=V') (hVE:V'<E) (hV:V=(v1*B+v2)*E+V') (hU':0<=U') (hU:U=(T*B+u2)*E+U') (hq:0<=q) (hqB:q<=B) (hT:q*v1+r=T) (h:q*v2<=r*B+u2):(q - 1)*V<=U:=by
 have a1:q*(v1*B+v2)<=T*B+u2:=by subst hT;grind
 have a2:=Int.mul_le_mul_of_nonneg_right a1 (Int.le_of_lt hE)
 have a3:q*V'<=B*E:=Int.mul_le_mul hqB (Int.le_of_lt hVE) hV' hB
 have a4:1*(B*E)<=v1*(B*E):=Int.mul_le_mul_of_nonneg_right h1 (Int.mul_nonneg hB (Int.le_of_lt hE))
 have a5:=Int.mul_nonneg h2 (Int.le_of_lt hE)
 subst hV hU
 grind
theorem kn_rest (hB:0<=B) (h2:v2<=B) (h2':0<=v2) (hq:0<=q) (hqB:q<=B) (hu:0<=u2) (hr:B<=r):q*v2<=r*B+u2:=by
 have a1:q*v2<=B*B:=Int.mul_le_mul hqB h2 h2' hB
 have a2:B*B<=r*B:=Int.mul_le_mul_of_nonneg_right hr hB
 omega
theorem kn_top (hB:0<B) (hE:0<E) (hVE:V'<E) (hV:V=(v1*B+v2)*E+V') (hU':0<=U') (hu2:0<=u2) (hU:U=(T*B+u2)*E+U') (h:U<V*B):T<=v1*B+v2:=by
 apply Int.lt_add_one_iff.mp
 have hBE:=Int.mul_pos hB hE
 apply Int.lt_of_mul_lt_mul_right (a:=B*E) _ (Int.le_of_lt hBE)
 have a1:=Int.mul_nonneg hu2 (Int.le_of_lt hE)
 have a2:V'*B<=E*B:=Int.mul_le_mul_of_nonneg_right (Int.le_of_lt hVE) (Int.le_of_lt hB)
 subst hV hU
 grind
theorem quo_unique (hV:0<V) {q' r':Int} (h:U=q*V+r) (h0:0<=r) (h1:r<V) (h':U=q'*V+r') (h0':0<=r') (h1':r'<V):q=q'/\r=r':=by
 have e:q=q':=by
  rcases Int.lt_trichotomy q q' with c | c | c
  ·have:=Int.mul_le_mul_of_nonneg_right (show q+1<=q' by omega) (Int.le_of_lt hV)
   rw [Int.add_mul] at this;omega
  ·exact c
  ·have:=Int.mul_le_mul_of_nonneg_right (show q'+1<=q by omega) (Int.le_of_lt hV)
   rw [Int.add_mul] at this;omega
 subst e
 exact ⟨rfl,by omega⟩
end
end Go.Proofs.Ytgbmmbfminafnaa.E
namespace Go.Proofs.Ytgbmmbfminafnaa.E
open Go Go.RowKit
section
variable {α β S R:Type}
theorem W.ret_r (a:α) (p:α->Prop):(W.ret a).run p=p a:=rfl
theorem W.bd {m:W α} {f:α->W β} {p:β->Prop} (h:m.run fun a=>(f a).run p):(W.bind m f).run p:=h
theorem W.req_i {c:Prop} {m:W α} {p:α->Prop} (hc:c) (h:m.run p):(W.req c m).run p:=⟨hc,h⟩
theorem W.loop_i {body:S->W (Ctl S R)} {s:S} {p:Lp S R->Prop} (I:S->Prop) (μ:S->Nat) (h0:I s) (h:∀ s,I s->(body s).run (Ctl.on (fun s'=>I s'/\μ s'<μ s) (fun s'=>p (.done s')) (fun r=>p (.out r)))):(W.loop body s).run p:=⟨I,μ,h0,h⟩
theorem W.loop_c {body:S->W (Ctl S R)} {s:S} {D:S->W β} {O:R->W β} {Q:β->Prop} (I:S->Prop) (μ:S->Nat) (h0:I s)
  (h:∀ s P,I s->(∀ s',I s'->μ s'<μ s->P (.go s'))->(∀ s',(D s').run Q->P (.brk s'))->(∀ r,(O r).run Q->P (.out r))->(body s).run P):(W.bind (W.loop body s) (Lp.on D O)).run Q:=
 ⟨I,μ,h0,fun s hs=>h s _ hs (fun s' a b=>⟨a,b⟩) (fun s' k=>k) (fun r k=>k)⟩
theorem W.run_if {c:Prop} [Decidable c] {a b:W α} {p:α->Prop} (h1:c->a.run p) (h2: ¬ c->b.run p):(if c then a else b).run p:=by
 split
 ·exact h1 ‹_›
 ·exact h2 ‹_›
end
theorem ishr_n (k:IntKind) (x:Int) (n:Nat) (h:n<=k.bits):ishr k x n=x / 2 ^ n:=by
 unfold ishr
 rw [Int.toNat_natCast,Nat.min_eq_left h]
 exact Int.fdiv_eq_ediv_of_nonneg _ (Int.le_of_lt (Int.pow_pos (by decide)))
theorem ishl_n (k:IntKind) (x:Int) (n:Nat) (h:n<=k.bits):ishl k x n=k.wrap (x*2 ^ n):=by
 unfold ishl
 rw [Int.toNat_natCast,Nat.min_eq_left h]
theorem ishr64_32 (x:Int):ishr .u64 x 32=x / 4294967296:=ishr_n .u64 x 32 (by decide)
theorem ishr64_63 (x:Int):ishr .u64 x 63=x / 9223372036854775808:=ishr_n .u64 x 63 (by decide)
theorem wrap_u64 (x:Int):IntKind.u64.wrap x=x % 18446744073709551616:=by simp [IntKind.wrap,IntKind.bits,IntKind.signed]
theorem wrap_u32 (x:Int):IntKind.u32.wrap x=x % 4294967296:=by simp [IntKind.wrap,IntKind.bits,IntKind.signed]
theorem wrap_i64 {x:Int} (h0: -9223372036854775808<=x) (h1:x<9223372036854775808):IntKind.i64.wrap x=x:=wrap_id (k:=.i64) (by show _/\_;omega)
theorem wrap64_is (x:Int):IntKind.i64.wrap x=(x+9223372036854775808) % 18446744073709551616 - 9223372036854775808:=by
 simp only [IntKind.wrap,IntKind.bits,IntKind.signed];simp;split <;> omega
theorem i64_iff {x:Int} :I64 x ↔ -9223372036854775808<=x/\x<=9223372036854775807:=Iff.rfl
theorem ishl64_32 {x:Int} (h0:0<=x) (h1:x<4294967296):ishl .u64 x 32=x*4294967296:=by
 have:=ishl_n .u64 x 32 (by decide)
 rw [wrap_u64] at this
 rw [show (32:Int)=((32:Nat):Int) from rfl,this]
 show (x*4294967296) % 18446744073709551616=_
 omega
theorem nat_or (a b n:Nat) (hb:b<2 ^ n):(a*2 ^ n) ||| b=a*2 ^ n+b:=by
 rw [Nat.mul_comm,Nat.two_pow_add_eq_or_of_lt hb]
theorem bv_nat {w:Nat} {x:Int} (h0:0<=x) (h1:x<2 ^ w):(BitVec.ofInt w x).toNat=x.toNat:=by
 rw [BitVec.toNat_ofInt]
 have:x % ((2 ^ w:Nat):Int)=x:=Int.emod_eq_of_lt h0 (by simpa using h1)
 rw [this]
theorem ior_sum64 {a b:Int} {n:Nat} (ha:0<=a) (hb:0<=b) (hbn:b<2 ^ n) (h:a*2 ^ n+b<18446744073709551616):ior .u64 (a*2 ^ n) b=a*2 ^ n+b:=by
 have hp:(0:Int)<2 ^ n:=Int.pow_pos (by decide)
 have h0:0<=a*2 ^ n:=Int.mul_nonneg ha (Int.le_of_lt hp)
 unfold ior
 have hw:(2:Int) ^ IntKind.u64.bits=18446744073709551616:=by decide
 rw [BitVec.toNat_or,bv_nat h0 (by rw [hw];omega),bv_nat hb (by rw [hw];omega),wrap_u64]
 obtain ⟨a',rfl⟩:=Int.eq_ofNat_of_zero_le ha
 obtain ⟨b',rfl⟩:=Int.eq_ofNat_of_zero_le hb
 have e:((a':Int)*2 ^ n).toNat=a'*2 ^ n:=by
  have:(a':Int)*2 ^ n=((a'*2 ^ n:Nat):Int):=by simp
  rw [this,Int.toNat_natCast]
 have hb':b'<2 ^ n:=by
  have:((b':Nat):Int)<((2 ^ n:Nat):Int):=by simpa using hbn
  exact Int.ofNat_lt.1 this
 rw [e,Int.toNat_natCast,nat_or _ _ _ hb']
 have:((a'*2 ^ n+b':Nat):Int)=(a':Int)*2 ^ n+b':=by simp
 rw [this]
 exact Int.emod_eq_of_lt (by omega) h
theorem ior_sum32 {a b:Int} {n:Nat} (ha:0<=a) (hb:0<=b) (hbn:b<2 ^ n) (h:a*2 ^ n+b<4294967296):ior .u32 (a*2 ^ n) b=a*2 ^ n+b:=by
 have hp:(0:Int)<2 ^ n:=Int.pow_pos (by decide)
 have h0:0<=a*2 ^ n:=Int.mul_nonneg ha (Int.le_of_lt hp)
 unfold ior
 have hw:(2:Int) ^ IntKind.u32.bits=4294967296:=by decide
 rw [BitVec.toNat_or,bv_nat h0 (by rw [hw];omega),bv_nat hb (by rw [hw];omega),wrap_u32]
 obtain ⟨a',rfl⟩:=Int.eq_ofNat_of_zero_le ha
 obtain ⟨b',rfl⟩:=Int.eq_ofNat_of_zero_le hb
 have e:((a':Int)*2 ^ n).toNat=a'*2 ^ n:=by
  have:(a':Int)*2 ^ n=((a'*2 ^ n:Nat):Int):=by simp
  rw [this,Int.toNat_natCast]
 have hb':b'<2 ^ n:=by
  have:((b':Nat):Int)<((2 ^ n:Nat):Int):=by simpa using hbn
  exact Int.ofNat_lt.1 this
 rw [e,Int.toNat_natCast,nat_or _ _ _ hb']
 have:((a'*2 ^ n+b':Nat):Int)=(a':Int)*2 ^ n+b':=by simp
 rw [this]
 exact Int.emod_eq_of_lt (by omega) h
theorem ior_comm (k:IntKind) (a b:Int):ior k a b=ior k b a:=by unfold ior;rw [BitVec.or_comm]
theorem ior64_32 {x y:Int} (h0:0<=x) (h1:x<4294967296) (h2:0<=y) (h3:y<4294967296):ior .u64 (ishl .u64 x 32) y=x*4294967296+y:=by
 rw [ishl64_32 h0 h1]
 exact ior_sum64 (n:=32) h0 h2 h3 (by show x*4294967296+y<_;omega)
theorem iand64_32 {x:Int} (h0:0<=x) (h1:x<18446744073709551616):iand .u64 x 4294967295=x % 4294967296:=by
 unfold iand
 have hw:(2:Int) ^ IntKind.u64.bits=18446744073709551616:=by decide
 rw [BitVec.toNat_and,bv_nat h0 (by rw [hw];omega),bv_nat (by decide) (by rw [hw];decide),wrap_u64]
 have:x.toNat &&& (4294967295:Int).toNat=x.toNat % 4294967296:=Nat.and_two_pow_sub_one_eq_mod x.toNat 32
 rw [this]
 omega
def trimB {R:Type} (p:List Int):W (Ctl (List Int) R):=
 if (p.length:Int)>0 then (W.req ((0:Int)<=((p.length:Int) - 1)/\((p.length:Int) - 1)<(p.length:Int)) (if (gi p ((p.length:Int) - 1))=0 then (W.req ((0:Int)<=((p.length:Int) - 1)/\((p.length:Int) - 1)<=(p.length:Int)) (W.ret (.go (p.take ((p.length:Int) - 1).toNat)))) else (W.ret (.brk p)))) else (W.ret (.brk p))
theorem trim_loop {R:Type} {l:List Int} {p:Lp (List Int) R->Prop} (hl:Wd (gn l)) (H:∀ r,Tr r->Wd (gn r)->wv r=wv l->r.length<=l.length->r=l.take r.length->p (.done r)):(W.loop (fun s=>trimB (R:=R) s) l).run p:=by
 refine W.loop_i (fun r=>Wd (gn r)/\wv r=wv l/\r.length<=l.length/\r=l.take r.length) (fun r=>r.length) ⟨hl,rfl,Nat.le_refl _,by simp⟩ ?_
 rintro r ⟨h1,h2,h3,h4⟩
 refine W.run_if (fun c=>W.req_i (by omega) (W.run_if (fun c2=>W.req_i (by omega) ?_) (fun c2=>?_))) (fun c=>?_)
 ·show _/\_
  have e:((r.length:Int) - 1).toNat=r.length - 1:=by omega
  rw [e]
  refine ⟨⟨h1.take _,?_,by rw [List.length_take];omega,?_⟩,by rw [List.length_take];omega⟩
  ·rw [wv_take _ (by omega),<- h2,wv]
   obtain ⟨n,hn⟩:∃ n,r.length=n+1:=⟨r.length - 1,by omega⟩
   rw [hn,sv,Nat.add_sub_cancel,Nat.zero_add]
   rw [gi_gn,e,hn,Nat.add_sub_cancel] at c2
   rw [c2]
   simp
  ·rw [List.length_take,Nat.min_eq_left (by omega)]
   have:=congrArg (List.take (r.length - 1)) h4
   rwa [List.take_take,Nat.min_eq_left (by omega)] at this
 ·refine H r (fun h0=>?_) h1 h2 h3 h4
  have e:((r.length:Int) - 1).toNat=r.length - 1:=by omega
  rwa [gi_gn,e] at c2
 ·have:r= []:=List.eq_nil_of_length_eq_zero (by omega)
  refine H r ?_ h1 h2 h3 h4
  rw [this]
  exact Tr.nil
end Go.Proofs.Ytgbmmbfminafnaa.E
