/- What the reference computes with words: order, sum, difference, product. -/
import Derived.Test.YtlmpoindlejefaaGreatSM2
import Derived.Test.YtlmpoindlejefaaGreatSTF
set_option linter.unusedVariables false
set_option linter.unusedSimpArgs false
namespace Go.Proofs.YtlmpoindlejefaaGreat.E
open Go Go.RowKit
theorem gi_nat (l:List Int) (i:Nat):gi l (i:Int)=gn l i:=by rw [gi_gn,Int.toNat_natCast]
theorem sv_less {f g:Nat->Int} (hf:Wd f) (hg:Wd g) {i n:Nat} (hi:i<n) (he:∀ k,i<k->k<n->f k=g k) (h:f i<g i):sv f 0 n<sv g 0 n:=by
 obtain ⟨m,rfl⟩:=Nat.exists_eq_add_of_le (show i+1<=n by omega)
 rw [sv_split f 0 (i+1) m,sv_split g 0 (i+1) m,sv_congr (f:=f) (g:=g) (j:=0+(i+1)) (fun k h1 h2=>he k (by omega) (by omega))]
 have e1:sv f 0 (i+1)=sv f 0 i+4294967296 ^ i*f i:=by rw [sv,Nat.zero_add]
 have e2:sv g 0 (i+1)=sv g 0 i+4294967296 ^ i*g i:=by rw [sv,Nat.zero_add]
 rw [e1,e2]
 have h1:=sv_lt hf 0 i
 have h2:=sv_nonneg hg 0 i
 have h3:(4294967296:Int) ^ i*(f i+1)<=4294967296 ^ i*g i:=Int.mul_le_mul_of_nonneg_left (by omega) (Int.le_of_lt (bpos i))
 rw [Int.mul_add] at h3
 omega
theorem wv_sv {l:List Int} {n:Nat} (h:l.length<=n):sv (gn l) 0 n=wv l:=(wv_of h).symm
def Cmp3 (r a b:Int):Prop:=r= -1/\a<b\/r=0/\a=b\/r=1/\b<a
theorem ref01_order_run {a b:List Int} {Q:Int->Prop} (wa:Wd (gn a)) (wb:Wd (gn b)) (ta:Tr a) (tb:Tr b) (H:∀ r,Cmp3 r (wv a) (wv b)->Q r):(ref01_order.f a b).run Q:=by
 unfold ref01_order.f
 refine W.run_if (fun c=>W.run_if (fun c2=>H _ (.inl ⟨rfl,tb.len_lt wa wb (by omega)⟩)) (fun c2=>H _ (.inr (.inr ⟨rfl,ta.len_lt wb wa (by omega)⟩)))) (fun c=>?_)
 have hl:a.length=b.length:=by omega
 refine W.loop_c (fun p=>∃ i:Nat,p=(i:Int) - 1/\i<=a.length/\∀ k,i<=k->gn a k=gn b k) (fun p=>(p+1).toNat) ⟨a.length,rfl,Nat.le_refl _,fun k hk=>by rw [gn_ge hk,gn_ge (by omega)]⟩ ?_
 rintro _ P ⟨i,rfl,hi,he⟩ hgo hbrk hout
 unfold ref01_order.l1
 refine W.run_if (fun c=>?_) (fun c=>?_)
 ·obtain ⟨j,rfl⟩:∃ j,i=j+1:=⟨i - 1,by omega⟩
  have e:((j+1:Nat):Int) - 1=(j:Int):=by omega
  rw [e,gi_nat,gi_nat]
  refine W.req_i (by omega) (W.req_i (by omega) (W.run_if (fun c2=>?_) (fun c2=>W.req_i (by omega) (W.req_i (by omega) (W.run_if (fun c3=>?_) (fun c3=>?_))))))
  ·refine hout _ (H _ (.inl ⟨rfl,?_⟩))
   rw [wv,wv,<- hl]
   exact sv_less wa wb (i:=j) (by omega) (fun k h1 h2=>he k (by omega)) c2
  ·refine hout _ (H _ (.inr (.inr ⟨rfl,?_⟩)))
   rw [wv,wv,<- hl]
   exact sv_less wb wa (i:=j) (by omega) (fun k h1 h2=>(he k (by omega)).symm) c3
  ·refine hgo _ ⟨j,rfl,by omega,fun k hk=>?_⟩ (by omega)
   by_cases e:k=j
   ·subst e;omega
   ·exact he k (by omega)
 ·refine hbrk _ (H _ (.inr (.inl ⟨rfl,?_⟩)))
  rw [wv,wv,<- hl]
  exact sv_congr fun k _ _=>he k (by omega)
theorem ref01_trim_run {l:List Int} {Q:List Int->Prop} (hl:Wd (gn l)) (H:∀ r,Tr r->Wd (gn r)->wv r=wv l->r.length<=l.length->Q r):(ref01_trim.f l).run Q:=
 trim_loop (p:=fun z=>(Lp.on (fun s=>ref01_trim.j1 s) (fun r=>W.ret r) z).run Q) hl fun r h1 h2 h3 h4 _=>H r h1 h2 h3 h4
theorem ref01_trim_o_run {l:List Int} {Q:List Int->Prop} (hl:Wd (gn l)) (H:∀ r,Tr r->Wd (gn r)->wv r=wv l->r.length<=l.length->Q r):(ref01_trim_o.f l).run Q:=
 trim_loop (p:=fun z=>(Lp.on (fun s=>ref01_trim_o.j1 s) (fun r=>W.ret r) z).run Q) hl fun r h1 h2 h3 h4 _=>H r h1 h2 h3 h4
theorem ref01_plus_run {a b:List Int} {Q:List Int->Prop} (wa:Wd (gn a)) (wb:Wd (gn b)) (la:a.length<=1099511627776) (lb:b.length<=1099511627776) (H:∀ r,Tr r->Wd (gn r)->wv r=wv a+wv b->Q r):(ref01_plus.f a b).run Q:=by
 have hmx:∃ n:Nat,mx (a.length:Int) (b.length:Int)=n/\a.length<=n/\b.length<=n/\n<=1099511627776:=by
  rcases mx_or (a.length:Int) (b.length:Int) with ⟨h1,h2⟩ | ⟨h1,h2⟩
  ·exact ⟨a.length,h1,by omega,by omega,by omega⟩
  ·exact ⟨b.length,h1,by omega,by omega,by omega⟩
 obtain ⟨n,hn,hna,hnb,hnl⟩:=hmx
 unfold ref01_plus.f
 rw [hn]
 refine W.req_i (by omega) ?_
 refine W.loop_c (fun s:List Int×Int×Int=>s.2.2=s.1.length/\s.1.length<=n/\0<=s.2.1/\s.2.1<=1/\Wd (gn s.1)/\wv s.1+4294967296 ^ s.1.length*s.2.1=sv (gn a) 0 s.1.length+sv (gn b) 0 s.1.length) (fun s=>n - s.1.length) ⟨rfl,Nat.zero_le _,by simp,by simp,Wd.nil,by simp [wv,sv]⟩ ?_
 rintro ⟨out,c,q⟩ P ⟨h0,h1,h2,h3,h4,h5⟩ hgo hbrk hout
 obtain rfl:q=(out.length:Int):=h0
 simp only at h1 h2 h3 h4 h5 hgo |-
 have round:out.length<n->∀ x,x=c+gn a out.length+gn b out.length->(ref01_plus.j5 out (out.length:Int) x).run P:=by
  rintro hlt x rfl
  have hwa:=wa out.length
  have hwb:=wb out.length
  refine W.req_i (by omega) (W.req_i (by show _/\_;omega) (hgo _ ⟨by simp,by simp;omega,?_,?_,h4.app (Wd.one (by omega)),?_⟩ (by simp;omega)))
  ·show 0<=ishr .u64 _ 32
   rw [ishr64_32];omega
  ·show ishr .u64 _ 32<=1
   rw [ishr64_32];omega
  ·show wv (out ++ [_])+4294967296 ^ (out ++ [_]).length*ishr .u64 _ 32=sv (gn a) 0 (out ++ [_]).length+sv (gn b) 0 (out ++ [_]).length
   rw [ishr64_32,wv_snoc,List.length_append,List.length_singleton,sv,sv,Nat.zero_add,bsucc]
   have:=Int.emod_add_mul_ediv (c+gn a out.length+gn b out.length) 4294967296
   grind
 have round2:out.length<n->(ref01_plus.j2 (out.length:Int) a b out c).run P:=by
  intro hlt
  have hwa:=wa out.length
  have hwb:=wb out.length
  unfold ref01_plus.j2 ref01_plus.j4
  rw [gi_nat,gi_nat]
  refine W.run_if (fun c1=>W.req_i (by omega) (W.run_if (fun c2=>W.req_i (by omega) (round hlt _ ?_)) (fun c2=>round hlt _ ?_))) (fun c1=>W.run_if (fun c2=>W.req_i (by omega) (round hlt _ ?_)) (fun c2=>round hlt _ ?_))
  ·omega
  ·rw [gn_ge (l:=b) (by omega)];omega
  ·rw [gn_ge (l:=a) (by omega)];omega
  ·rw [gn_ge (l:=a) (by omega),gn_ge (l:=b) (by omega)];omega
 unfold ref01_plus.l1
 refine W.run_if (fun c1=>round2 (by omega)) (fun c1=>W.run_if (fun c2=>round2 (by omega)) (fun c2=>?_))
 have hc:c % 4294967296=c:=by omega
 refine hbrk _ (W.req_i (by simp only;omega) (ref01_trim_run (h4.app (Wd.one (by omega))) fun r t1 t2 t3 t4=>H r t1 t2 ?_))
 rw [t3,wv_snoc,hc,h5,wv_sv (by omega),wv_sv (by omega)]
end Go.Proofs.YtlmpoindlejefaaGreat.E
