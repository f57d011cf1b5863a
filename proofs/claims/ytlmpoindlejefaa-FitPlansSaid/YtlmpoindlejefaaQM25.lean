/- The reference: lists, rows and matrices of numbers. -/
import Derived.Test.YtlmpoindlejefaaQM17
set_option linter.unusedVariables false
set_option linter.unusedSimpArgs false
namespace Go.Proofs.Ytlmpoindlejefaa.E
open Go Go.RowKit
def RL (l:List zp) (n:Nat) (f:Nat->Rat):Prop:=l.length=n/\∀ i,i<n->RRep (gd l i) (f i)
def RM (l:List (List zp)) (r c:Nat) (f:Nat->Nat->Rat):Prop:=l.length=r/\∀ i,i<r->RL (gd l i) c (f i)
theorem RL.congr {l:List zp} {n:Nat} {f g:Nat->Rat} (h:RL l n f) (he:∀ i,i<n->f i=g i):RL l n g:=⟨h.1,fun i hi=>he i hi ▸ h.2 i hi⟩
theorem RM.congr {l:List (List zp)} {r c:Nat} {f g:Nat->Nat->Rat} (h:RM l r c f) (he:∀ i j,i<r->j<c->f i j=g i j):RM l r c g:=⟨h.1,fun i hi=>(h.2 i hi).congr fun j hj=>he i j hi hj⟩
theorem RL.set {l:List zp} {n:Nat} {f:Nat->Rat} (h:RL l n f) {i:Nat} {q:zp} {y:Rat} (hq:RRep q y):RL (l.set i q) n (fun j=>if j=i then y else f j):=by
 refine ⟨by rw [List.length_set];exact h.1,fun j hj=>?_⟩
 rw [zCz]
 dsimp only
 by_cases e:i=j
 ·subst e;rw [if_pos ⟨rfl,by rw [h.1];exact hj⟩];simpa using hq
 ·rw [if_neg (by omega),if_neg (by omega)];exact h.2 j hj
theorem RL.snoc {l:List zp} {n:Nat} {f:Nat->Rat} (h:RL l n f) {q:zp} (hq:RRep q (f n)):RL (l ++ [q]) (n+1) f:=by
 refine ⟨by rw [List.length_append,h.1];rfl,fun j hj=>?_⟩
 rw [zGd,h.1]
 by_cases e:j=n
 ·subst e;rw [if_neg (by omega),Nat.sub_self];exact hq
 ·rw [if_pos (by omega)];exact h.2 j (by omega)
theorem RM.set {l:List (List zp)} {r c:Nat} {f:Nat->Nat->Rat} (h:RM l r c f) {i:Nat} {x:List zp} {g:Nat->Rat} (hx:RL x c g):RM (l.set i x) r c (fun k=>if k=i then g else f k):=by
 refine ⟨by rw [List.length_set];exact h.1,fun j hj=>?_⟩
 rw [zCz]
 dsimp only
 by_cases e:i=j
 ·subst e;rw [if_pos ⟨rfl,by rw [h.1];exact hj⟩];simpa using hx
 ·rw [if_neg (by omega),if_neg (by omega)];exact h.2 j hj
theorem gd_rep {α:Type} [Inhabited α] {n k:Nat} {x:α} (h:k<n):gd (List.replicate n x) k=x:=by
 rw [zIo (by simpa using h)];simp
theorem RL.zero (n:Nat):RL (List.replicate n ⟨⟨[],false⟩,⟨[],false⟩⟩) n (fun _=>0):=⟨by simp,fun i hi=>by rw [gd_rep hi];exact RRep.zero⟩
theorem valid.i64 {r:zn} (h:valid r):I64 r.N/\I64 r.D/\r.D≠0:=by
 obtain ⟨h1,h2,h3,h4,_⟩:=h
 exact ⟨by show _/\_;omega,by show _/\_;omega,by omega⟩
theorem zDz {l:List zn} {n:Nat} {f:Nat->Rat} {Q:List zp->Prop} (hn:l.length=n) (hn2:n<=1000000) (hv:∀ k,k<n->valid (gd l k)/\ratOf (gd l k)=f k) (H:∀ o,RL o n f->Q o):(zBR.f l).run Q:=by
 unfold zBR.f
 refine W.loop_c (fun s:List zp×Int=>∃ i:Nat,s.2=i/\i<=n/\RL s.1 i f) (fun s=>n - s.2.toNat) ⟨0,rfl,Nat.zero_le _,rfl,fun j hj=>by omega⟩ ?_
 rintro ⟨o,_⟩ P ⟨i,rfl,hi,h1⟩ hgo hbrk hout
 simp only at h1 hgo |-
 have hol:=h1.1
 unfold zBR.l1
 simp only [zCE]
 refine W.run_if (fun c=>W.req_i (by omega) ?_) (fun c=>hbrk _ (by obtain rfl:i=n:=(by omega);exact H _ h1))
 have v:=hv i (by omega)
 obtain ⟨v1,v2,v3⟩:=v.1.i64
 refine W.bd (zDE v1 v2 v3 fun z hz=>W.req_i (by omega) (hgo _ ⟨i+1,by simp,by omega,h1.snoc ?_⟩ (by simp;omega)))
 rw [<- v.2];exact hz
theorem zIO (n:Nat) (f:Nat->Rat):tolds (n+1) f=tolds n f ++ [(toldR (f n)).1]:=by simp [tolds,List.range_succ]
theorem zGm {l:List zp} {n:Nat} {f:Nat->Rat} {Q:List zn×Bool->Prop} (hl:RL l n f) (hn:n<=1000000) (h1:allTold n f->Q (tolds n f,true)) (h2: ¬ allTold n f->Q ([],false)):(zBi.f l).run Q:=by
 have hll:=hl.1
 unfold zBi.f
 refine W.loop_c (fun s:List zn×Int=>∃ i:Nat,s.2=i/\i<=n/\s.1=tolds i f/\allTold i f) (fun s=>n - s.2.toNat) ⟨0,rfl,Nat.zero_le _,rfl,fun j hj=>by omega⟩ ?_
 rintro ⟨_,_⟩ P ⟨i,rfl,hi,rfl,k2⟩ hgo hbrk hout
 simp only at hgo |-
 have tl:=zDC i f
 unfold zBi.l1
 simp only [zCE]
 refine W.run_if (fun c=>W.req_i (by omega) (W.bd (zEG (hl.2 i (by omega)) (W.run_if (fun c2=>W.req_i (by omega) (hgo _ ⟨i+1,by simp,by omega,(zIO i f).symm,fun j hj=>?_⟩ (by simp;omega))) (fun c2=>hout _ (h2 fun h=>c2 (h i (by omega)))))))) (fun c=>hbrk _ (by obtain rfl:i=n:=(by omega);exact h1 k2))
 by_cases e:j=i
 ·rw [e];exact c2
 ·exact k2 j (by omega)
theorem zEs {m:zAS} {r c:Nat} {Q:List (List zp)->Prop} (hR:m.R=r) (hC:m.C=c) (hr:r<=12) (hc:c<=12) (hl:m.V.length=r*c) (hv:∀ j i,j<r->i<c->valid (gd m.V (j*c+i))) (H:∀ o,RM o r c (mxv m.V c)->Q o):(zBV.f m).run Q:=by
 unfold zBV.f
 rw [hR,Int.toNat_natCast]
 refine W.req_i (by omega) ?_
 refine W.loop_c (fun s:List (List zp)×Int=>∃ i:Nat,s.2=i/\i<=r/\s.1.length=r/\∀ j,j<i->RL (gd s.1 j) c (mxv m.V c j)) (fun s=>r - s.2.toNat) ⟨0,rfl,Nat.zero_le _,by simp,fun j hj=>by omega⟩ ?_
 rintro ⟨o,_⟩ P ⟨i,rfl,hi,h1,h2⟩ hgo hbrk hout
 simp only at h1 h2 hgo |-
 unfold zBV.l1
 rw [hR,hC]
 refine W.run_if (fun c1=>?_) (fun c1=>hbrk _ (by obtain rfl:i=r:=(by omega);exact H _ ⟨h1,h2⟩))
 have hir:i<r:=by omega
 have hp:=zDn (a:=(i:Int)) (b:=(c:Int)) (by omega) (by omega)
 have hp2:=zDn (a:=(i:Int)+1) (b:=(c:Int)) (by omega) (by omega)
 refine W.req_i (by show _/\_;omega) (W.req_i (by show _/\_;omega) (W.req_i (zIB hl hir) ?_))
 rw [zIN]
 refine W.bd (zDz (n:=c) (f:=mxv m.V c i) (cut_len hl hir) (by omega) (fun k hk=>?_) fun ro hro=>W.req_i (by omega) (hgo _ ⟨i+1,by simp,by omega,by simp [h1],fun j hj=>?_⟩ (by simp;omega)))
 ·rw [gd_cut _ _ _ _ hk];exact ⟨hv i k hir hk,rfl⟩
 ·simp only [Int.toNat_natCast]
  rw [zCz]
  by_cases e:i=j
  ·subst e;rw [if_pos ⟨rfl,by omega⟩];exact hro
  ·rw [if_neg (by omega)];exact h2 j (by omega)
theorem zGh {l:List zp} {o:zp} {n:Nat} {f:Nat->Rat} {q:Rat} {Q:List zn×zn×Int->Prop} (hl:RL l n f) (hn:n<=1000000) (ho:RRep o q) (h1:allTold n f->(toldR q).2=true->Q (tolds n f,(toldR q).1,0)) (h2: ¬ (allTold n f/\(toldR q).2=true)->Q ([],⟨0,0⟩,3)):(zD3.f l o).run Q:=by
 unfold zD3.f
 refine W.bd (zGm hl hn (fun c=>W.bd (zEG ho ?_)) (fun c=>W.bd (zEG ho ?_)))
 ·rw [if_pos rfl]
  exact W.run_if (fun c2=>h1 c c2) (fun c2=>h2 fun h=>c2 h.2)
 ·rw [if_neg (by simp)]
  exact h2 fun h=>c h.1
theorem zCq {a b:List zp} {n s t:Nat} {f g:Nat->Rat} {Q:zp->Prop} (ha:RL a n f) (hb:RL b n g) (hs:n*(s+t+1)+1<=8796093022208) (hs2:s+t<=8796093022208) (hn:n<=1000000) (sf:∀ i,i<n->Sz s (f i)) (sg:∀ i,i<n->Sz t (g i)) (H:∀ z,RRep z (sm n (fun i=>f i*g i))->Q z):(zBS.f a b).run Q:=by
 have hal:=ha.1
 have hbl:=hb.1
 unfold zBS.f
 refine W.loop_c (fun s:zp×Int=>∃ i:Nat,s.2=i/\i<=n/\RRep s.1 (sm i (fun i=>f i*g i))) (fun s=>n - s.2.toNat) ⟨0,rfl,Nat.zero_le _,RRep.zero⟩ ?_
 rintro ⟨o,_⟩ P ⟨i,rfl,hi,h1⟩ hgo hbrk hout
 simp only at h1 hgo |-
 unfold zBS.l1
 simp only [zCE]
 refine W.run_if (fun c=>?_) (fun c=>hbrk _ ?_)
 ·have hin:i<n:=by omega
  have hmul:=Nat.mul_le_mul_right (s+t+1) hi
  have sz:Sz (i*(s+t+1)+1) (sm i (fun i=>f i*g i)):=Sz.sm fun j hj=>(sf j (by omega)).mul (sg j (by omega))
  exact W.req_i (by omega) (W.req_i (by omega) (W.bd (zCt (ha.2 i hin) (hb.2 i hin) ((sf i hin).ok (by omega)) ((sg i hin).ok (by omega)) fun x hx=>W.bd (zCg h1 hx (sz.ok (by omega)) (((sf i hin).mul (sg i hin)).ok hs2) fun y hy=>hgo _ ⟨i+1,by simp,by omega,hy⟩ (by simp;omega)))))
 ·obtain rfl:i=n:=by omega
  exact H _ h1
end Go.Proofs.Ytlmpoindlejefaa.E
