/- Joined. -/
import Derived.Test.YtgbmmbfminafnaaKM0
import Derived.Test.YtgbmmbfminafnaaKTF
set_option linter.unusedVariables false
set_option linter.unusedSimpArgs false
namespace Go.Proofs.Ytgbmmbfminafnaa.E
open Go Go.RowKit
theorem gi_nat (l:List Int) (i:Nat):gi l (i:Int)=gn l i:=by rw [gi_gn,Int.toNat_natCast]
theorem sv_less {f g:Nat->Int} (hf:Wd f) (hg:Wd g) {i n:Nat} (hi:i<n) (he:∀ k,i<k->k<n->f k=g k) (h:f i<g i):sv f 0 n<sv g 0 n:=by
 obtain ⟨m,rfl⟩:=Nat.exists_eq_add_of_le (show i+1<=n by omega)
 rw [sv_split f 0 (i+1) m,sv_split g 0 (i+1) m,sv_congr (f:=f) (g:=g) (j:=0+(i+1)) (fun k h1 h2=>he k (by omega) (by omega))]
 have e1:sv f 0 (i+1)=sv f 0 i+4294967296 ^ i*f i:=by rw [sv,Nat.zero_add]
 have e2:sv g 0 (i+1)=sv g 0 i+4294967296 ^ i*g i:=by rw [sv,Nat.zero_add]
 rw [e1,e2]
 have h1:=sv_lt hf 0 i
 have h2:=sv_nonneg hg 0 i
 have h3:(4294967296:Int) ^ i*(f i+1)<=4294967296 ^ i*g i:=Int.mul_le_mul_of_nonneg_left (by omega) (Int.le_of_lt (bpos i))
 rw [Int.mul_add] at h3
 omega
theorem wv_sv {l:List Int} {n:Nat} (h:l.length<=n):sv (gn l) 0 n=wv l:=(wv_of h).symm
def Cmp3 (r a b:Int):Prop:=r= -1/\a<b\/r=0/\a=b\/r=1/\b<a
theorem ref01_order_run {a b:List Int} {Q:Int->Prop} (wa:Wd (gn a)) (wb:Wd (gn b)) (ta:Tr a) (tb:Tr b) (H:∀ r,Cmp3 r (wv a) (wv b)->Q r):(ref01_order.f a b).run Q:=by
 unfold ref01_order.f
 refine W.run_if (fun c=>W.run_if (fun c2=>H _ (.inl ⟨rfl,tb.len_lt wa wb (by omega)⟩)) (fun c2=>H _ (.inr (.inr ⟨rfl,ta.len_lt wb wa (by omega)⟩)))) (fun c=>?_)
 have hl:a.length=b.length:=by omega
 refine W.loop_c (fun p=>∃ i:Nat,p=(i:Int) - 1/\i<=a.length/\∀ k,i<=k->gn a k=gn b k) (fun p=>(p+1).toNat) ⟨a.length,rfl,Nat.le_refl _,fun k hk=>by rw [gn_ge hk,gn_ge (by omega)]⟩ ?_
 rintro _ P ⟨i,rfl,hi,he⟩ hgo hbrk hout
 unfold ref01_order.l1
 refine W.run_if (fun c=>?_) (fun c=>?_)
 ·obtain ⟨j,rfl⟩:∃ j,i=j+1:=⟨i - 1,by omega⟩
  have e:((j+1:Nat):Int) - 1=(j:Int):=by omega
  rw [e,gi_nat,gi_nat]
  refine W.req_i (by omega) (W.req_i (by omega) (W.run_if (fun c2=>?_) (fun c2=>W.req_i (by omega) (W.req_i (by omega) (W.run_if (fun c3=>?_) (fun c3=>?_))))))
  ·refine hout _ (H _ (.inl ⟨rfl,?_⟩))
   rw [wv,wv,<- hl]
   exact sv_less wa wb (i:=j) (by omega) (fun k h1 h2=>he k (by omega)) c2
  ·refine hout _ (H _ (.inr (.inr ⟨rfl,?_⟩)))
   rw [wv,wv,<- hl]
   exact sv_less wb wa (i:=j) (by omega) (fun k h1 h2=>(he k (by omega)).symm) c3
  ·refine hgo _ ⟨j,rfl,by omega,fun k hk=>?_⟩ (by omega)
   by_cases e:k=j
   ·subst e;omega
   ·exact he k (by omega)
 ·refine hbrk _ (H _ (.inr (.inl ⟨rfl,?_⟩)))
  rw [wv,wv,<- hl]
  exact sv_congr fun k _ _=>he k (by omega)
theorem ref01_trim_run {l:List Int} {Q:List Int->Prop} (hl:Wd (gn l)) (H:∀ r,Tr r->Wd (gn r)->wv r=wv l->r.length<=l.length->Q r):(ref01_trim.f l).run Q:=
 trim_loop (p:=fun z=>(Lp.on (fun s=>ref01_trim.j1 s) (fun r=>W.ret r) z).run Q) hl fun r h1 h2 h3 h4 _=>H r h1 h2 h3 h4
theorem ref01_trim_o_run {l:List Int} {Q:List Int->Prop} (hl:Wd (gn l)) (H:∀ r,Tr r->Wd (gn r)->wv r=wv l->r.length<=l.length->Q r):(ref01_trim_o.f l).run Q:=
 trim_loop (p:=fun z=>(Lp.on (fun s=>ref01_trim_o.j1 s) (fun r=>W.ret r) z).run Q) hl fun r h1 h2 h3 h4 _=>H r h1 h2 h3 h4
end Go.Proofs.Ytgbmmbfminafnaa.E
namespace Go.Proofs.Ytgbmmbfminafnaa.E
open Go Go.RowKit
theorem Tr.len_le {a b:List Int} (wa:Wd (gn a)) (wb:Wd (gn b)) (tb:Tr b) (h:wv b<=wv a):b.length<=a.length:=by
 rcases Nat.lt_or_ge a.length b.length with c | c
 ·have:=tb.len_lt wa wb c;omega
 ·exact c
theorem times_step {o x y c:Int} (ho:0<=o/\o<4294967296) (hx:0<=x/\x<4294967296) (hy:0<=y/\y<4294967296) (hc:0<=c/\c<4294967296):0<=x*y/\x*y<=18446744065119617025/\0<=c+(x*y+o)/\c+(x*y+o)<18446744073709551616:=by
 have h1:=Int.mul_nonneg hx.1 hy.1
 have h2:x*y<=4294967295*4294967295:=Int.mul_le_mul (by omega) (by omega) hy.1 (by omega)
 omega
structure Row (out0 out:List Int) (b:List Int) (i k:Nat) (x c:Int):Prop where
 len:out.length=out0.length
 wd:Wd (gn out)
 low:∀ j,j<i->gn out j=gn out0 j
 high:∀ j,i+k<=j->gn out j=gn out0 j
 c0:0<=c
 c1:c<4294967296
 val:sv (gn out) i k+4294967296 ^ k*c=sv (gn out0) i k+x*sv (gn b) 0 k
theorem Row.init {out0 b:List Int} {i:Nat} {x:Int} (h:Wd (gn out0)):Row out0 out0 b i 0 x 0:=⟨rfl,h,fun _ _=>rfl,fun _ _=>rfl,by decide,by decide,by simp [sv]⟩
theorem Row.step {out0 out b:List Int} {i k:Nat} {x c s:Int} (h:Row out0 out b i k x c) (hb:Wd (gn b)) (hx:0<=x/\x<4294967296) (hk:i+k<out.length) (hs:s=c+x*gn b k+gn out (i+k)):Row out0 (out.set (i+k) (s % 4294967296)) b i (k+1) x (s / 4294967296):=by
 have h1:=times_step (h.wd (i+k)) hx (hb k) ⟨h.c0,h.c1⟩
 refine ⟨by rw [List.length_set];exact h.len,h.wd.set (by omega),fun j hj=>by rw [gn_set,if_neg (by omega)];exact h.low j hj,fun j hj=>by rw [gn_set,if_neg (by omega)];exact h.high j (by omega),by omega,by omega,?_⟩
 rw [sv,sv,sv_congr (g:=gn out) (fun j _ hj=>by rw [gn_set,if_neg (by omega)]),gn_set,if_pos ⟨rfl,hk⟩,sv,bsucc]
 have h2:=h.val
 have h3:gn out0 (i+k)=gn out (i+k):=(h.high (i+k) (Nat.le_refl _)).symm
 rw [h3]
 have h4:=Int.emod_add_mul_ediv s 4294967296
 rw [Nat.zero_add]
 generalize (4294967296:Int) ^ k=e at *
 generalize s / 4294967296=s1 at *
 generalize s % 4294967296=s0 at *
 subst hs
 grind
structure Rows (a b out:List Int) (i:Nat):Prop where
 len:out.length=a.length+b.length
 wd:Wd (gn out)
 high:∀ j,i+b.length<=j->gn out j=0
 val:sv (gn out) 0 (i+b.length)=sv (gn a) 0 i*wv b
theorem Rows.init {a b:List Int} {n:Nat} (hn:n=a.length+b.length):Rows a b (List.replicate n 0) 0:=⟨by simp [hn],Wd.rep _,fun j _=>gn_rep _ _,by rw [sv_zero (fun j _ _=>gn_rep _ _)];simp [sv]⟩
theorem Rows.next {a b out0 out:List Int} {i:Nat} {c:Int} (h:Rows a b out0 i) (r:Row out0 out b i b.length (gn a i) c) (hi:i<a.length):Rows a b (out.set (i+b.length) (c % 4294967296)) (i+1):=by
 have hc:c % 4294967296=c:=Int.emod_eq_of_lt r.c0 r.c1
 have hl:i+b.length<out.length:=by rw [r.len,h.len];omega
 rw [hc]
 refine ⟨by rw [List.length_set,r.len,h.len],r.wd.set ⟨r.c0,r.c1⟩,fun j hj=>by rw [gn_set,if_neg (by omega),r.high j (by omega)];exact h.high j (by omega),?_⟩
 have e1:sv (gn (out.set (i+b.length) c)) 0 (i+1+b.length)=sv (gn out) 0 i+4294967296 ^ i*(sv (gn out) i b.length+4294967296 ^ b.length*c):=by
  rw [show i+1+b.length=i+(b.length+1) by omega,sv_split,Nat.zero_add,sv,gn_set,if_pos ⟨rfl,hl⟩,sv_congr (g:=gn out) (j:=0) (fun j _ hj=>by rw [gn_set,if_neg (by omega)]),sv_congr (g:=gn out) (j:=i) (fun j _ hj=>by rw [gn_set,if_neg (by omega)])]
 rw [e1,r.val,sv_congr (f:=gn out) (g:=gn out0) (j:=0) (fun j _ hj=>r.low j (by omega))]
 have e2:=h.val
 rw [sv_split,Nat.zero_add] at e2
 have e3:sv (gn b) 0 b.length=wv b:=rfl
 rw [sv,Nat.zero_add,e3]
 grind
theorem Rows.end_ {a b out:List Int} (h:Rows a b out a.length):wv out=wv a*wv b:=by
 have:=h.val
 rwa [wv_sv (by rw [h.len];omega)] at this
theorem ref01_times_run {a b:List Int} {Q:List Int->Prop} (wa:Wd (gn a)) (wb:Wd (gn b)) (la:a.length<=1099511627776) (lb:b.length<=1099511627776) (H:∀ r,Tr r->Wd (gn r)->wv r=wv a*wv b->Q r):(ref01_times.f a b).run Q:=by
 unfold ref01_times.f
 refine W.req_i (by omega) ?_
 refine W.loop_c (fun s:List Int×Int=>∃ i:Nat,s.2=i/\i<=a.length/\Rows a b s.1 i) (fun s=>a.length - s.2.toNat) ⟨0,rfl,Nat.zero_le _,Rows.init (by omega)⟩ ?_
 rintro ⟨out0,_⟩ P ⟨i,rfl,hi,hR⟩ hgo hbrk hout
 simp only at hR hgo |-
 unfold ref01_times.l1
 refine W.run_if (fun c1=>?_) (fun c1=>hbrk _ ?_)
 ·refine W.loop_c (fun s:List Int×Int×Int=>∃ k:Nat,s.2.2=k/\k<=b.length/\Row out0 s.1 b i k (gn a i) s.2.1) (fun s=>b.length - s.2.2.toNat) ⟨0,rfl,Nat.zero_le _,Row.init hR.wd⟩ ?_
  rintro ⟨out,c,_⟩ P2 ⟨k,rfl,hk,hr⟩ hgo2 hbrk2 hout2
  simp only at hr hgo2 |-
  have hl:out.length=a.length+b.length:=by rw [hr.len,hR.len]
  unfold ref01_times.l2
  refine W.run_if (fun c2=>?_) (fun c2=>hbrk2 _ ?_)
  ·have e:((i:Int)+(k:Int))=((i+k:Nat):Int):=by omega
   have e2:((i:Int)+(k:Int)).toNat=i+k:=by omega
   rw [e2,e,gi_nat,gi_nat,gi_nat]
   have h1:=times_step (hr.wd (i+k)) (wa i) (wb k) ⟨hr.c0,hr.c1⟩
   have h2:=hr.wd (i+k)
   have h3:=hr.c0
   have h4:=hr.c1
   refine W.req_i (by omega) (W.req_i (by omega) (W.req_i (by show _/\_;omega) (W.req_i (by omega) (W.req_i (by show _/\_;omega) (W.req_i (by omega) (hgo2 _ ⟨k+1,by simp,by omega,?_⟩ (by simp;omega)))))))
   have h5:(c+(((gn a i*gn b k) % 18446744073709551616+gn out (i+k)) % 18446744073709551616)) % 18446744073709551616=c+gn a i*gn b k+gn out (i+k):=by omega
   rw [h5,ishr64_32]
   exact hr.step wb (wa i) (by omega) rfl
  ·obtain rfl:k=b.length:=by omega
   have e2:((i:Int)+(b.length:Int)).toNat=i+b.length:=by omega
   refine W.req_i (by show _/\_;omega) (W.req_i (by simp only;omega) (hgo _ ⟨i+1,by simp,by omega,?_⟩ (by simp;omega)))
   rw [e2]
   exact hR.next hr (by omega)
 ·obtain rfl:i=a.length:=by omega
  exact ref01_trim_run hR.wd fun r t1 t2 t3 t4=>H r t1 t2 (by rw [t3,hR.end_])
end Go.Proofs.Ytgbmmbfminafnaa.E
