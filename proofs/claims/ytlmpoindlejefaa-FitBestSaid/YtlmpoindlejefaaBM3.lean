/- Joined. -/
import Derived.Test.YtlmpoindlejefaaBM0
import Derived.Test.YtlmpoindlejefaaBTF
set_option linter.unusedVariables false
set_option linter.unusedSimpArgs false
namespace Go.Proofs.Ytlmpoindlejefaa.E
open Go Go.RowKit
theorem zBm (l:List Int) (i:Nat):gi l (i:Int)=gn l i:=by rw [gi_gn,Int.toNat_natCast]
theorem zG9 {f g:Nat->Int} (hf:Wd f) (hg:Wd g) {i n:Nat} (hi:i<n) (he:∀ k,i<k->k<n->f k=g k) (h:f i<g i):sv f 0 n<sv g 0 n:=by
 obtain ⟨m,rfl⟩:=Nat.exists_eq_add_of_le (show i+1<=n by omega)
 rw [zDL f 0 (i+1) m,zDL g 0 (i+1) m,zBo (f:=f) (g:=g) (j:=0+(i+1)) (fun k h1 h2=>he k (by omega) (by omega))]
 have e1:sv f 0 (i+1)=sv f 0 i+4294967296 ^ i*f i:=by rw [sv,Nat.zero_add]
 have e2:sv g 0 (i+1)=sv g 0 i+4294967296 ^ i*g i:=by rw [sv,Nat.zero_add]
 rw [e1,e2]
 have h1:=zE7 hf 0 i
 have h2:=zBL hg 0 i
 have h3:(4294967296:Int) ^ i*(f i+1)<=4294967296 ^ i*g i:=Int.mul_le_mul_of_nonneg_left (by omega) (Int.le_of_lt (bpos i))
 rw [Int.mul_add] at h3
 omega
theorem zFH {l:List Int} {n:Nat} (h:l.length<=n):sv (gn l) 0 n=wv l:=(wv_of h).symm
def Cmp3 (r a b:Int):Prop:=r= -1/\a<b\/r=0/\a=b\/r=1/\b<a
theorem zC3 {a b:List Int} {Q:Int->Prop} (wa:Wd (gn a)) (wb:Wd (gn b)) (ta:Tr a) (tb:Tr b) (H:∀ r,Cmp3 r (wv a) (wv b)->Q r):(zA9.f a b).run Q:=by
 unfold zA9.f
 refine W.run_if (fun c=>W.run_if (fun c2=>H _ (.inl ⟨rfl,tb.len_lt wa wb (by omega)⟩)) (fun c2=>H _ (.inr (.inr ⟨rfl,ta.len_lt wb wa (by omega)⟩)))) (fun c=>?_)
 have hl:a.length=b.length:=by omega
 refine W.loop_c (fun p=>∃ i:Nat,p=(i:Int) - 1/\i<=a.length/\∀ k,i<=k->gn a k=gn b k) (fun p=>(p+1).toNat) ⟨a.length,rfl,Nat.le_refl _,fun k hk=>by rw [zDS hk,zDS (by omega)]⟩ ?_
 rintro _ P ⟨i,rfl,hi,he⟩ hgo hbrk hout
 unfold zA9.l1
 refine W.run_if (fun c=>?_) (fun c=>?_)
 ·obtain ⟨j,rfl⟩:∃ j,i=j+1:=⟨i - 1,by omega⟩
  have e:((j+1:Nat):Int) - 1=(j:Int):=by omega
  rw [e,zBm,zBm]
  refine W.req_i (by omega) (W.req_i (by omega) (W.run_if (fun c2=>?_) (fun c2=>W.req_i (by omega) (W.req_i (by omega) (W.run_if (fun c3=>?_) (fun c3=>?_))))))
  ·refine hout _ (H _ (.inl ⟨rfl,?_⟩))
   rw [wv,wv,<- hl]
   exact zG9 wa wb (i:=j) (by omega) (fun k h1 h2=>he k (by omega)) c2
  ·refine hout _ (H _ (.inr (.inr ⟨rfl,?_⟩)))
   rw [wv,wv,<- hl]
   exact zG9 wb wa (i:=j) (by omega) (fun k h1 h2=>(he k (by omega)).symm) c3
  ·refine hgo _ ⟨j,rfl,by omega,fun k hk=>?_⟩ (by omega)
   by_cases e:k=j
   ·subst e;omega
   ·exact he k (by omega)
 ·refine hbrk _ (H _ (.inr (.inl ⟨rfl,?_⟩)))
  rw [wv,wv,<- hl]
  exact zBo fun k _ _=>he k (by omega)
theorem zBf {l:List Int} {Q:List Int->Prop} (hl:Wd (gn l)) (H:∀ r,Tr r->Wd (gn r)->wv r=wv l->r.length<=l.length->Q r):(zA2.f l).run Q:=
 zGL (p:=fun z=>(Lp.on (fun s=>zA2.j1 s) (fun r=>W.ret r) z).run Q) hl fun r h1 h2 h3 h4 _=>H r h1 h2 h3 h4
theorem zF1 {l:List Int} {Q:List Int->Prop} (hl:Wd (gn l)) (H:∀ r,Tr r->Wd (gn r)->wv r=wv l->r.length<=l.length->Q r):(zBM.f l).run Q:=
 zGL (p:=fun z=>(Lp.on (fun s=>zBM.j1 s) (fun r=>W.ret r) z).run Q) hl fun r h1 h2 h3 h4 _=>H r h1 h2 h3 h4
theorem zGp {a b:List Int} {Q:List Int->Prop} (wa:Wd (gn a)) (wb:Wd (gn b)) (la:a.length<=1099511627776) (lb:b.length<=1099511627776) (H:∀ r,Tr r->Wd (gn r)->wv r=wv a+wv b->Q r):(zAa.f a b).run Q:=by
 have hmx:∃ n:Nat,mx (a.length:Int) (b.length:Int)=n/\a.length<=n/\b.length<=n/\n<=1099511627776:=by
  rcases mx_or (a.length:Int) (b.length:Int) with ⟨h1,h2⟩ | ⟨h1,h2⟩
  ·exact ⟨a.length,h1,by omega,by omega,by omega⟩
  ·exact ⟨b.length,h1,by omega,by omega,by omega⟩
 obtain ⟨n,hn,hna,hnb,hnl⟩:=hmx
 unfold zAa.f
 rw [hn]
 refine W.req_i (by omega) ?_
 refine W.loop_c (fun s:List Int×Int×Int=>s.2.2=s.1.length/\s.1.length<=n/\0<=s.2.1/\s.2.1<=1/\Wd (gn s.1)/\wv s.1+4294967296 ^ s.1.length*s.2.1=sv (gn a) 0 s.1.length+sv (gn b) 0 s.1.length) (fun s=>n - s.1.length) ⟨rfl,Nat.zero_le _,by simp,by simp,Wd.nil,by simp [wv,sv]⟩ ?_
 rintro ⟨out,c,q⟩ P ⟨h0,h1,h2,h3,h4,h5⟩ hgo hbrk hout
 obtain rfl:q=(out.length:Int):=h0
 simp only at h1 h2 h3 h4 h5 hgo |-
 have round:out.length<n->∀ x,x=c+gn a out.length+gn b out.length->(zAa.j5 out (out.length:Int) x).run P:=by
  rintro hlt x rfl
  have hwa:=wa out.length
  have hwb:=wb out.length
  refine W.req_i (by omega) (W.req_i (by show _/\_;omega) (hgo _ ⟨by simp,by simp;omega,?_,?_,h4.app (Wd.one (by omega)),?_⟩ (by simp;omega)))
  ·show 0<=ishr .u64 _ 32
   rw [zBv];omega
  ·show ishr .u64 _ 32<=1
   rw [zBv];omega
  ·show wv (out ++ [_])+4294967296 ^ (out ++ [_]).length*ishr .u64 _ 32=sv (gn a) 0 (out ++ [_]).length+sv (gn b) 0 (out ++ [_]).length
   rw [zBv,zE4,List.length_append,List.length_singleton,sv,sv,Nat.zero_add,bsucc]
   have:=Int.emod_add_mul_ediv (c+gn a out.length+gn b out.length) 4294967296
   grind
 have round2:out.length<n->(zAa.j2 (out.length:Int) a b out c).run P:=by
  intro hlt
  have hwa:=wa out.length
  have hwb:=wb out.length
  unfold zAa.j2 zAa.j4
  rw [zBm,zBm]
  refine W.run_if (fun c1=>W.req_i (by omega) (W.run_if (fun c2=>W.req_i (by omega) (round hlt _ ?_)) (fun c2=>round hlt _ ?_))) (fun c1=>W.run_if (fun c2=>W.req_i (by omega) (round hlt _ ?_)) (fun c2=>round hlt _ ?_))
  ·omega
  ·rw [zDS (l:=b) (by omega)];omega
  ·rw [zDS (l:=a) (by omega)];omega
  ·rw [zDS (l:=a) (by omega),zDS (l:=b) (by omega)];omega
 unfold zAa.l1
 refine W.run_if (fun c1=>round2 (by omega)) (fun c1=>W.run_if (fun c2=>round2 (by omega)) (fun c2=>?_))
 have hc:c % 4294967296=c:=by omega
 refine hbrk _ (W.req_i (by simp only;omega) (zBf (h4.app (Wd.one (by omega))) fun r t1 t2 t3 t4=>H r t1 t2 ?_))
 rw [t3,zE4,hc,h5,zFH (by omega),zFH (by omega)]
end Go.Proofs.Ytlmpoindlejefaa.E
namespace Go.Proofs.Ytlmpoindlejefaa.E
open Go Go.RowKit
theorem Tr.len_le {a b:List Int} (wa:Wd (gn a)) (wb:Wd (gn b)) (tb:Tr b) (h:wv b<=wv a):b.length<=a.length:=by
 rcases Nat.lt_or_ge a.length b.length with c | c
 ·have:=tb.len_lt wa wb c;omega
 ·exact c
theorem zEz {a b:List Int} {Q:List Int->Prop} (wa:Wd (gn a)) (wb:Wd (gn b)) (tb:Tr b) (hle:wv b<=wv a) (la:a.length<=1099511627776) (H:∀ r,Tr r->Wd (gn r)->wv r=wv a - wv b->Q r):(zAu.f a b).run Q:=by
 have hba:=tb.len_le wa wb hle
 unfold zAu.f
 refine W.req_i (by omega) ?_
 refine W.loop_c (fun s:List Int×Int×Int=>s.2.2=s.1.length/\s.1.length<=a.length/\0<=s.2.1/\s.2.1<=1/\Wd (gn s.1)/\wv s.1 - 4294967296 ^ s.1.length*s.2.1=sv (gn a) 0 s.1.length - sv (gn b) 0 s.1.length) (fun s=>a.length - s.1.length) ⟨rfl,Nat.zero_le _,by simp,by simp,Wd.nil,by simp [wv,sv]⟩ ?_
 rintro ⟨out,c,q⟩ P ⟨h0,h1,h2,h3,h4,h5⟩ hgo hbrk hout
 obtain rfl:q=(out.length:Int):=h0
 simp only at h1 h2 h3 h4 h5 hgo |-
 have hwa:=wa out.length
 have hwb:=wb out.length
 have round:out.length<a.length->∀ x,x=(gn a out.length - c - gn b out.length) % 18446744073709551616->(zAu.j3 out (out.length:Int) x).run P:=by
  rintro hlt x hx
  refine W.req_i (by omega) (hgo _ ⟨by simp,by simp;omega,?_,?_,h4.app (Wd.one (by omega)),?_⟩ (by simp;omega))
  ·show 0<=ishr .u64 _ 63
   rw [zFX];omega
  ·show ishr .u64 _ 63<=1
   rw [zFX];omega
  ·show wv (out ++ [_]) - 4294967296 ^ (out ++ [_]).length*ishr .u64 _ 63=sv (gn a) 0 (out ++ [_]).length - sv (gn b) 0 (out ++ [_]).length
   rw [zFX,zE4,List.length_append,List.length_singleton,sv,sv,Nat.zero_add,bsucc]
   have:x % 4294967296 - 4294967296*(x / 9223372036854775808)=gn a out.length - c - gn b out.length:=by omega
   grind
 unfold zAu.l1
 rw [zBm,zBm]
 refine W.run_if (fun c1=>W.req_i (by omega) (W.run_if (fun c2=>W.req_i (by omega) (round (by omega) _ (by omega))) (fun c2=>round (by omega) _ (by rw [zDS (l:=b) (by omega)];omega)))) (fun c1=>hbrk _ ?_)
 have hl:out.length=a.length:=by omega
 refine zBf h4 fun r t1 t2 t3 t4=>H r t1 t2 ?_
 rw [hl,zFH (Nat.le_refl _),zFH hba] at h5
 have h6:=zG7 h4
 have hp:=bpos a.length
 rw [hl] at h6
 have:c=0:=by
  rcases (show c=0\/c=1 by omega) with h | h
  ·exact h
  ·subst h;omega
 subst this
 rw [t3]
 show wv out=_
 omega
theorem zFf {o x y c:Int} (ho:0<=o/\o<4294967296) (hx:0<=x/\x<4294967296) (hy:0<=y/\y<4294967296) (hc:0<=c/\c<4294967296):0<=x*y/\x*y<=18446744065119617025/\0<=c+(x*y+o)/\c+(x*y+o)<18446744073709551616:=by
 have h1:=Int.mul_nonneg hx.1 hy.1
 have h2:x*y<=4294967295*4294967295:=Int.mul_le_mul (by omega) (by omega) hy.1 (by omega)
 omega
structure Row (out0 out:List Int) (b:List Int) (i k:Nat) (x c:Int):Prop where
 len:out.length=out0.length
 wd:Wd (gn out)
 low:∀ j,j<i->gn out j=gn out0 j
 high:∀ j,i+k<=j->gn out j=gn out0 j
 c0:0<=c
 c1:c<4294967296
 val:sv (gn out) i k+4294967296 ^ k*c=sv (gn out0) i k+x*sv (gn b) 0 k
theorem Row.init {out0 b:List Int} {i:Nat} {x:Int} (h:Wd (gn out0)):Row out0 out0 b i 0 x 0:=⟨rfl,h,fun _ _=>rfl,fun _ _=>rfl,by decide,by decide,by simp [sv]⟩
theorem Row.step {out0 out b:List Int} {i k:Nat} {x c s:Int} (h:Row out0 out b i k x c) (hb:Wd (gn b)) (hx:0<=x/\x<4294967296) (hk:i+k<out.length) (hs:s=c+x*gn b k+gn out (i+k)):Row out0 (out.set (i+k) (s % 4294967296)) b i (k+1) x (s / 4294967296):=by
 have h1:=zFf (h.wd (i+k)) hx (hb k) ⟨h.c0,h.c1⟩
 refine ⟨by rw [List.length_set];exact h.len,h.wd.set (by omega),fun j hj=>by rw [zA7,if_neg (by omega)];exact h.low j hj,fun j hj=>by rw [zA7,if_neg (by omega)];exact h.high j (by omega),by omega,by omega,?_⟩
 rw [sv,sv,zBo (g:=gn out) (fun j _ hj=>by rw [zA7,if_neg (by omega)]),zA7,if_pos ⟨rfl,hk⟩,sv,bsucc]
 have h2:=h.val
 have h3:gn out0 (i+k)=gn out (i+k):=(h.high (i+k) (Nat.le_refl _)).symm
 rw [h3]
 have h4:=Int.emod_add_mul_ediv s 4294967296
 rw [Nat.zero_add]
 generalize (4294967296:Int) ^ k=e at *
 generalize s / 4294967296=s1 at *
 generalize s % 4294967296=s0 at *
 subst hs
 grind
structure Rows (a b out:List Int) (i:Nat):Prop where
 len:out.length=a.length+b.length
 wd:Wd (gn out)
 high:∀ j,i+b.length<=j->gn out j=0
 val:sv (gn out) 0 (i+b.length)=sv (gn a) 0 i*wv b
theorem Rows.init {a b:List Int} {n:Nat} (hn:n=a.length+b.length):Rows a b (List.replicate n 0) 0:=⟨by simp [hn],Wd.rep _,fun j _=>zFu _ _,by rw [zGO (fun j _ _=>zFu _ _)];simp [sv]⟩
theorem Rows.next {a b out0 out:List Int} {i:Nat} {c:Int} (h:Rows a b out0 i) (r:Row out0 out b i b.length (gn a i) c) (hi:i<a.length):Rows a b (out.set (i+b.length) (c % 4294967296)) (i+1):=by
 have hc:c % 4294967296=c:=Int.emod_eq_of_lt r.c0 r.c1
 have hl:i+b.length<out.length:=by rw [r.len,h.len];omega
 rw [hc]
 refine ⟨by rw [List.length_set,r.len,h.len],r.wd.set ⟨r.c0,r.c1⟩,fun j hj=>by rw [zA7,if_neg (by omega),r.high j (by omega)];exact h.high j (by omega),?_⟩
 have e1:sv (gn (out.set (i+b.length) c)) 0 (i+1+b.length)=sv (gn out) 0 i+4294967296 ^ i*(sv (gn out) i b.length+4294967296 ^ b.length*c):=by
  rw [show i+1+b.length=i+(b.length+1) by omega,zDL,Nat.zero_add,sv,zA7,if_pos ⟨rfl,hl⟩,zBo (g:=gn out) (j:=0) (fun j _ hj=>by rw [zA7,if_neg (by omega)]),zBo (g:=gn out) (j:=i) (fun j _ hj=>by rw [zA7,if_neg (by omega)])]
 rw [e1,r.val,zBo (f:=gn out) (g:=gn out0) (j:=0) (fun j _ hj=>r.low j (by omega))]
 have e2:=h.val
 rw [zDL,Nat.zero_add] at e2
 have e3:sv (gn b) 0 b.length=wv b:=rfl
 rw [sv,Nat.zero_add,e3]
 grind
theorem Rows.end_ {a b out:List Int} (h:Rows a b out a.length):wv out=wv a*wv b:=by
 have:=h.val
 rwa [zFH (by rw [h.len];omega)] at this
theorem zGP {a b:List Int} {Q:List Int->Prop} (wa:Wd (gn a)) (wb:Wd (gn b)) (la:a.length<=1099511627776) (lb:b.length<=1099511627776) (H:∀ r,Tr r->Wd (gn r)->wv r=wv a*wv b->Q r):(zAi.f a b).run Q:=by
 unfold zAi.f
 refine W.req_i (by omega) ?_
 refine W.loop_c (fun s:List Int×Int=>∃ i:Nat,s.2=i/\i<=a.length/\Rows a b s.1 i) (fun s=>a.length - s.2.toNat) ⟨0,rfl,Nat.zero_le _,Rows.init (by omega)⟩ ?_
 rintro ⟨out0,_⟩ P ⟨i,rfl,hi,hR⟩ hgo hbrk hout
 simp only at hR hgo |-
 unfold zAi.l1
 refine W.run_if (fun c1=>?_) (fun c1=>hbrk _ ?_)
 ·refine W.loop_c (fun s:List Int×Int×Int=>∃ k:Nat,s.2.2=k/\k<=b.length/\Row out0 s.1 b i k (gn a i) s.2.1) (fun s=>b.length - s.2.2.toNat) ⟨0,rfl,Nat.zero_le _,Row.init hR.wd⟩ ?_
  rintro ⟨out,c,_⟩ P2 ⟨k,rfl,hk,hr⟩ hgo2 hbrk2 hout2
  simp only at hr hgo2 |-
  have hl:out.length=a.length+b.length:=by rw [hr.len,hR.len]
  unfold zAi.l2
  refine W.run_if (fun c2=>?_) (fun c2=>hbrk2 _ ?_)
  ·have e:((i:Int)+(k:Int))=((i+k:Nat):Int):=by omega
   have e2:((i:Int)+(k:Int)).toNat=i+k:=by omega
   rw [e2,e,zBm,zBm,zBm]
   have h1:=zFf (hr.wd (i+k)) (wa i) (wb k) ⟨hr.c0,hr.c1⟩
   have h2:=hr.wd (i+k)
   have h3:=hr.c0
   have h4:=hr.c1
   refine W.req_i (by omega) (W.req_i (by omega) (W.req_i (by show _/\_;omega) (W.req_i (by omega) (W.req_i (by show _/\_;omega) (W.req_i (by omega) (hgo2 _ ⟨k+1,by simp,by omega,?_⟩ (by simp;omega)))))))
   have h5:(c+(((gn a i*gn b k) % 18446744073709551616+gn out (i+k)) % 18446744073709551616)) % 18446744073709551616=c+gn a i*gn b k+gn out (i+k):=by omega
   rw [h5,zBv]
   exact hr.step wb (wa i) (by omega) rfl
  ·obtain rfl:k=b.length:=by omega
   have e2:((i:Int)+(b.length:Int)).toNat=i+b.length:=by omega
   refine W.req_i (by show _/\_;omega) (W.req_i (by simp only;omega) (hgo _ ⟨i+1,by simp,by omega,?_⟩ (by simp;omega)))
   rw [e2]
   exact hR.next hr (by omega)
 ·obtain rfl:i=a.length:=by omega
  exact zBf hR.wd fun r t1 t2 t3 t4=>H r t1 t2 (by rw [t3,hR.end_])
end Go.Proofs.Ytlmpoindlejefaa.E
