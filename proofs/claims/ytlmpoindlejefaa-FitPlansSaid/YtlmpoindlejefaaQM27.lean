/- The reference: the basis of a kernel, solutions, the one solution. -/
import Derived.Test.YtlmpoindlejefaaQM26
set_option linter.unusedVariables false
set_option linter.unusedSimpArgs false
namespace Go.Proofs.Ytlmpoindlejefaa.E
open Go Go.RowKit
def pix (piv:List Int) (q:Nat):Nat->Option Nat
 | 0=>none
 | n+1=>if nd piv n=q then some n else pix piv q n
theorem zHA {piv:List Int} {q a:Nat} :∀ {n},pix piv q n=some a->a<n/\nd piv a=q
 | n+1,h=>by
  unfold pix at h
  split at h
  ·rename_i e
   obtain rfl:=Option.some.inj h
   exact ⟨Nat.lt_succ_self _,e⟩
  ·have:=zHA h
   exact ⟨by omega,this.2⟩
theorem zF9 {piv:List Int} {q:Nat} :∀ {n},pix piv q n=none->∀ a,a<n->nd piv a≠q
 | 0,_,a,ha=>by omega
 | n+1,h,a,ha=>by
  unfold pix at h
  split at h
  ·cases h
  ·rename_i e
   by_cases e2:a=n
   ·rw [e2];exact e
   ·exact zF9 h a (by omega)
def freeL (piv:List Int):Nat->List Nat
 | 0=>[]
 | n+1=>if pix piv n piv.length=none then freeL piv n ++ [n] else freeL piv n
theorem zHj (piv:List Int):∀ n,(freeL piv n).length<=n
 | 0=>Nat.le_refl _
 | n+1=>by
  have:=zHj piv n
  unfold freeL
  split
  ·simp;omega
  ·omega
theorem zFT {piv:List Int} {j:Nat} :∀ {n},j ∈ freeL piv n ↔ j<n/\pix piv j piv.length=none
 | 0=>by simp [freeL]
 | n+1=>by
  unfold freeL
  split
  ·rename_i h
   rw [List.mem_append,zFT,List.mem_singleton]
   constructor
   ·rintro (⟨h1,h2⟩ | rfl)
    ·exact ⟨by omega,h2⟩
    ·exact ⟨Nat.lt_succ_self _,h⟩
   ·rintro ⟨h1,h2⟩
    by_cases e:j=n
    ·exact .inr e
    ·exact .inl ⟨by omega,h2⟩
  ·rename_i h
   rw [zFT]
   constructor
   ·rintro ⟨h1,h2⟩;exact ⟨by omega,h2⟩
   ·rintro ⟨h1,h2⟩
    refine ⟨?_,h2⟩
    rcases Nat.lt_or_ge j n with h3 | h3
    ·exact h3
    ·obtain rfl:j=n:=by omega
     exact absurd h2 h
def kvp (M:Nat->Nat->Rat) (piv:List Int) (j n q:Nat):Rat:=if q=j then 1 else match pix piv q n with
 | some a=>- M a j
 | none=>0
def kv (M:Nat->Nat->Rat) (piv:List Int) (j:Nat):Nat->Rat:=kvp M piv j piv.length
def xvp (M:Nat->Nat->Rat) (piv:List Int) (c n q:Nat):Rat:=match pix piv q n with
 | some a=>M a c
 | none=>0
theorem gi_nd {piv:List Int} {a:Nat} (h:0<=gn piv a):gi piv (a:Int)=(nd piv a:Int):=by
 have:gi piv (a:Int)=gn piv a:=by simp [gi,gn]
 rw [this]
 unfold nd
 omega
section
variable {r c:Nat} {M:Nat->Nat->Rat} {piv:List Int}
theorem zGO {rows:List (List zp)} {w:Nat} {Q:List (List zp)->Prop} (hM:RM rows r w M) (hcw:c<=w) (hw:w<=1000000) (hr:r<=1000000) (hpl:piv.length<=r) (hpv:∀ a,a<piv.length->0<=gn piv a/\nd piv a<c) (H:∀ out,RM out (freeL piv c).length c (fun a=>kv M piv (gd (freeL piv c) a))->Q out):(zAT.f rows piv (c:Int)).run Q:=by
 have hrl:=hM.1
 unfold zAT.f
 refine W.loop_c (fun s:(Int->Bool)×Int=>∃ i:Nat,s.2=i/\i<=piv.length/\∀ q:Nat,s.1 q=true ↔ pix piv q i≠none) (fun s=>piv.length - s.2.toNat) ⟨0,rfl,Nat.zero_le _,fun q=>by simp [pix]⟩ ?_
 rintro ⟨f,_⟩ P0 ⟨i,rfl,hi,hf⟩ hgo0 hbrk0 hout0
 simp only at hf hgo0 |-
 unfold zAT.l3
 refine W.run_if (fun c1=>W.req_i (by omega) (hgo0 _ ⟨i+1,by simp,by omega,fun q=>?_⟩ (by simp;omega))) (fun c1=>hbrk0 _ ?_)
 ·have hv:=hpv i (by omega)
  simp only
  rw [gi_nd hv.1]
  unfold mset pix
  by_cases e:nd piv i=q
  ·simp [e]
  ·rw [if_neg (by omega),if_neg e];exact hf q
 obtain rfl:i=piv.length:=by omega
 clear hgo0 hbrk0 hout0 c1 hi
 unfold zAT.j1
 refine W.loop_c (fun s:List (List zp)×Int=>∃ j:Nat,s.2=j/\j<=c/\RM s.1 (freeL piv j).length c (fun a=>kv M piv (gd (freeL piv j) a))) (fun s=>c - s.2.toNat) ⟨0,rfl,Nat.zero_le _,⟨rfl,fun i hi=>by simp [freeL] at hi⟩⟩ ?_
 rintro ⟨out,_⟩ P ⟨j,rfl,hj,h1⟩ hgo hbrk hout
 simp only at h1 hgo |-
 unfold zAT.l1
 refine W.run_if (fun c1=>?_) (fun c1=>hbrk _ (by (obtain rfl:j=c:=(by omega));exact H _ h1))
 have hjc:j<c:=by omega
 refine W.run_if (fun c2=>?_) (fun c2=>?_)
 ·unfold zAT.j3
  refine hgo _ ⟨j+1,by simp,by omega,?_⟩ (by simp;omega)
  have:freeL piv (j+1)=freeL piv j:=by
   conv=>lhs;unfold freeL
   rw [if_neg ((hf j).1 c2)]
  rw [this];exact h1
 ·have hfree:pix piv j piv.length=none:=by
   cases hp:pix piv j piv.length with
   | none=>rfl
   | some a=>exact absurd ((hf j).2 (by rw [hp];simp)) c2
  have hfl:freeL piv (j+1)=freeL piv j ++ [j]:=by
   conv=>lhs;unfold freeL
   rw [if_pos hfree]
  rw [Int.toNat_natCast]
  refine W.req_i (by omega) (W.bd (zEH (n:=1) (by show _/\_;omega) fun one hone=>W.req_i (by simp;omega) ?_))
  have hone:RRep one 1:=by simpa using hone
  refine W.loop_c (fun s:List zp×Int=>∃ i:Nat,s.2=i/\i<=piv.length/\RL s.1 c (kvp M piv j i)) (fun s=>piv.length - s.2.toNat) ⟨0,rfl,Nat.zero_le _,?_⟩ ?_
  ·refine ((RL.zero c).set (i:=j) hone).congr fun q hq=>?_
   unfold kvp pix
   rfl
  rintro ⟨v,_⟩ P2 ⟨i,rfl,hi,h2⟩ hgo2 hbrk2 hout2
  simp only at h2 hgo2 |-
  have hvl:=h2.1
  unfold zAT.l2
  refine W.run_if (fun c3=>?_) (fun c3=>hbrk2 _ ?_)
  ·have hv:=hpv i (by omega)
   have hrow:=hM.2 i (by omega)
   have hl2:=hrow.1
   rw [gi_nd hv.1]
   simp only [zCE]
   refine W.req_i (by omega) (W.req_i (by omega) (W.req_i (by omega) (W.bd (zFE (hrow.2 j (by omega)) fun z hz=>W.req_i (by omega) (hgo2 _ ⟨i+1,by simp,by omega,?_⟩ (by simp;omega))))))
   simp only [Int.toNat_natCast]
   refine (h2.set hz).congr fun q hq=>?_
   have hne:nd piv i≠j:=zF9 hfree i (by omega)
   unfold kvp
   conv=>rhs;unfold pix
   by_cases e:q=nd piv i
   ·rw [if_pos e,if_neg (by omega),if_pos e.symm]
   ·have e3: ¬ nd piv i=q:=fun h=>e h.symm
    simp only [if_neg e,if_neg e3]
  ·obtain rfl:i=piv.length:=by omega
   have hol:=h1.1
   have hfln:=zHj piv j
   unfold zAT.j4 zAT.j3
   refine W.req_i (by omega) (hgo _ ⟨j+1,by simp,by omega,?_⟩ (by simp;omega))
   refine ⟨by simp [hfl,hol],fun a ha=>?_⟩
   simp only
   rw [hfl] at ha |-
   rw [zGd,zGd,hol]
   by_cases e:a<(freeL piv j).length
   ·rw [if_pos e,if_pos e];exact h1.2 a e
   ·have:a=(freeL piv j).length:=by simp at ha;omega
    rw [if_neg e,if_neg e,this,Nat.sub_self]
    exact h2
theorem RL.xset {l:List zp} {n i:Nat} (h:RL l n (xvp M piv c i)) {q:zp} (hq:RRep q (M i c)):RL (l.set (nd piv i) q) n (xvp M piv c (i+1)):=by
 refine (h.set hq).congr fun j hj=>?_
 unfold xvp
 conv=>rhs;unfold pix
 by_cases e:j=nd piv i
 ·rw [if_pos e,if_pos e.symm]
 ·rw [if_neg e,if_neg (fun h=>e h.symm)]
theorem zFA {Z:Nat->(Nat->Nat->Rat)->Prop} {t0:Nat} {rows:List (List zp)} {b:List zp} {A:Nat->Nat->Rat} {V:Nat->Rat} {Q:List zp×List (List zp)×Bool->Prop} (hA:RM rows r c A) (hb:RL b r V) (hr:r<=999999) (hc:c<=999999) (ht0:4*t0<=8796093022208) (hZ0:Z 0 (augM c A V)) (hZ:Grows r (c+1) c t0 Z)
  (H1:∀ piv M' x ker,Red r (c+1) (augM c A V) M' c piv->(∀ i,piv.length<=i->i<r->M' i c=0)->Z c M'->RL x c (xvp M' piv c piv.length)->RM ker (freeL piv c).length c (fun a=>kv M' piv (gd (freeL piv c) a))->Q (x,ker,true))
  (H2:∀ piv M' i,Red r (c+1) (augM c A V) M' c piv->piv.length<=i->i<r->M' i c≠0->Q ([],[],false)):(zAP.f rows (c:Int) b).run Q:=by
 have hrl:=hA.1
 have hbl:=hb.1
 unfold zAP.f
 rw [hrl,Int.toNat_natCast]
 refine W.req_i (by omega) ?_
 refine W.loop_c (fun s':List (List zp)×Int=>∃ i:Nat,s'.2=i/\i<=r/\s'.1.length=r/\∀ j,j<i->RL (gd s'.1 j) (c+1) (augM c A V j)) (fun s=>r - s.2.toNat) ⟨0,rfl,Nat.zero_le _,by simp,fun j hj=>by omega⟩ ?_
 rintro ⟨t,_⟩ P0 ⟨i,rfl,hi,h1,h2⟩ hgo0 hbrk0 hout0
 simp only at h1 h2 hgo0 |-
 unfold zAP.l3
 rw [hrl]
 simp only [zCE]
 refine W.run_if (fun c1=>?_) (fun c1=>hbrk0 _ ?_)
 ·have hrow:=hA.2 i (by omega)
  have hl2:=hrow.1
  refine W.req_i (by omega) (W.req_i (by omega) (W.req_i (by omega) (W.req_i (by omega) (W.req_i (by omega) (hgo0 _ ⟨i+1,by simp,by omega,by simp [h1],fun j hj=>?_⟩ (by simp;omega))))))
  simp only [Int.toNat_natCast]
  rw [zCz]
  by_cases e:i=j
  ·subst e
   rw [if_pos ⟨rfl,by omega⟩]
   have e1:RL (gd rows i) c (augM c A V i):=hrow.congr fun j hj=>by unfold augM;rw [if_neg (by omega)]
   refine e1.snoc ?_
   unfold augM
   rw [if_pos rfl]
   exact hb.2 i (by omega)
  ·rw [if_neg (by omega)];exact h2 j (by omega)
 obtain rfl:i=r:=by omega
 have ht:RM t i (c+1) (augM c A V):=⟨h1,h2⟩
 clear hgo0 hbrk0 hout0 h1 h2 c1 hi
 unfold zAP.j1
 refine W.bd (zFg ht (by omega) (by omega) (by omega) ht0 hZ0 hZ fun piv rows' M' r1 r2 r3=>?_)
 have hple:=r2.le
 have hrl':=r1.1
 simp only
 refine W.loop_c (fun p:Int=>∃ a:Nat,p=a/\piv.length<=a/\a<=i/\∀ k,piv.length<=k->k<a->M' k c=0) (fun p=>i - p.toNat) ⟨piv.length,rfl,Nat.le_refl _,hple,fun k h4 h5=>by omega⟩ ?_
 rintro _ P1 ⟨a,rfl,ha1,ha2,ha3⟩ hgo1 hbrk1 hout1
 unfold zAP.l2
 simp only [zCE]
 refine W.run_if (fun c1=>?_) (fun c1=>hbrk1 _ ?_)
 ·have hrow:=r1.2 a (by omega)
  have hl2:=hrow.1
  refine W.req_i (by omega) (W.req_i (by omega) (W.bd (zDM (hrow.2 c (by omega)) (W.run_if (fun c3=>hgo1 _ ⟨a+1,by simp,by omega,by omega,fun k h4 h5=>?_⟩ (by simp;omega)) (fun c3=>hout1 _ (H2 piv M' a r2 ha1 (by omega) fun e=>c3 (decide_eq_true e)))))))
  by_cases e:k=a
  ·rw [e];exact of_decide_eq_true c3
  ·exact ha3 k h4 (by omega)
 obtain rfl:a=i:=by omega
 clear hgo1 hbrk1 hout1 c1 ha1 ha2
 unfold zAP.j2
 rw [Int.toNat_natCast]
 refine W.req_i (by omega) ?_
 refine W.loop_c (fun s':List zp×Int=>∃ k:Nat,s'.2=k/\k<=piv.length/\RL s'.1 c (xvp M' piv c k)) (fun s=>piv.length - s.2.toNat) ⟨0,rfl,Nat.zero_le _,RL.zero c⟩ ?_
 rintro ⟨x,_⟩ P2 ⟨k,rfl,hk,k1⟩ hgo2 hbrk2 hout2
 simp only at k1 hgo2 |-
 have hxl:=k1.1
 unfold zAP.l1
 dsimp only
 refine W.run_if (fun c1=>?_) (fun c1=>hbrk2 _ ?_)
 ·have hv:=r2.lt k (by omega)
  have hrow:=r1.2 k (by omega)
  have hl2:=hrow.1
  rw [gi_nd hv.1]
  simp only [zCE]
  refine W.req_i (by omega) (W.req_i (by omega) (W.req_i (by omega) (W.req_i (by omega) (hgo2 _ ⟨k+1,by simp,by omega,?_⟩ (by simp;omega)))))
  simp only [Int.toNat_natCast]
  exact k1.xset (hrow.2 c (by omega))
 ·obtain rfl:k=piv.length:=by omega
  unfold zAP.j3
  exact W.bd (zGO r1 (by omega) (by omega) (by omega) hple r2.lt fun ker hker=>H1 piv M' x ker r2 ha3 r3 k1 hker)
end
theorem Red.all {n:Nat} {m:Nat->Nat->Rat} {v:Nat->Rat} {M:Nat->Nat->Rat} {piv:List Int} (h:Red n (n+1) (augM n m v) M n piv) (hf:freeL piv n= []):piv.length=n/\∀ a,a<n->nd piv a=a:=by
 rcases h.full with ⟨e1,e2⟩ | ⟨f,e1,e2⟩
 ·exact ⟨e1,fun a ha=>e2 a (by omega)⟩
 ·exfalso
  have:f ∈ freeL piv n:=zFT.2 ⟨e1,by
   cases hp:pix piv f piv.length with
   | none=>rfl
   | some a=>obtain ⟨h1,h2⟩:=zHA hp;exact absurd h2 (e2 a h1)⟩
  rw [hf] at this
  cases this
theorem zGL {Z:Nat->(Nat->Nat->Rat)->Prop} {t0:Nat} {m:List (List zp)} {v:List zp} {n:Nat} {A:Nat->Nat->Rat} {V:Nat->Rat} {Q:List zp×Bool->Prop} (hm:RM m n n A) (hv:RL v n V) (hn:n<=999999) (ht0:4*t0<=8796093022208) (hZ0:Z 0 (augM n A V)) (hZ:Grows n (n+1) n t0 Z)
  (H1:∀ out x,RL out n x->Sol n A V x->(∃ M',Z n M'/\∀ i,i<n->x i=M' i n)->Q (out,true))
  (H2:∀ out,(∀ x,¬ Sol n A V x)->Q (out,false)):(zDY.f m v).run Q:=by
 unfold zDY.f
 rw [hv.1]
 have no:∀ M' piv,Red n (n+1) (augM n A V) M' n piv->piv.length<n->∀ x,¬ Sol n A V x:=by
  intro M' piv hR hl x hx
  obtain ⟨u,⟨g,hg,hu⟩,hz⟩:=hR.free hl
  have s1:=(hx x).2 fun i _=>rfl
  have s2:=(hx (fun i=>x i+u i)).1 fun i hi=>by
   have a:=s1 i hi
   have b:=hz i hi
   unfold dz at a b |-
   rw [zAm (g:=fun j=>A i j*x j+A i j*u j) fun j _=>by grind,zE8,a,b,Rat.add_zero]
  have:=s2 g hg
  exact absurd (show u g=0 by grind) hu
 refine W.bd (zFA hm hv hn hn ht0 hZ0 hZ (fun piv M' x ker hR h0 hsz hx hker=>?_) (fun piv M' i hR h1 h2 h3=>?_))
 ·rw [if_pos rfl]
  have hkl:=hker.1
  simp only [hkl]
  by_cases e:freeL piv n= []
  ·have:decide (((freeL piv n).length:Int)=0)=true:=by simp [e]
   rw [this]
   obtain ⟨e1,e2⟩:=hR.all e
   have hxe:∀ q,q<n->xvp M' piv n piv.length q=M' q n:=by
    intro q hq
    unfold xvp
    cases hp:pix piv q piv.length with
    | none=>exact absurd (e2 q hq) (zF9 hp q (by omega))
    | some a=>
     obtain ⟨p1,p2⟩:=zHA hp
     rw [e2 a (by omega)] at p2
     simp only [p2]
   exact H1 _ _ (hx.congr hxe) (fun y=>hR.solved e1 y) ⟨M',hsz,fun i hi=>rfl⟩
  ·have:decide (((freeL piv n).length:Int)=0)=false:=by
    have:(freeL piv n).length≠0:=fun h=>e (List.eq_nil_of_length_eq_zero h)
    simp only [decide_eq_false_iff_not];omega
   rw [this]
   refine H2 _ (no M' piv hR ?_)
   obtain ⟨f,hf⟩:=List.exists_mem_of_ne_nil _ e
   obtain ⟨f1,f2⟩:=zFT.1 hf
   rcases hR.full with ⟨g1,g2⟩ | ⟨f',g1,g2⟩
   ·exact absurd (g2 f (by omega)) (zF9 f2 f (by omega))
   ·rcases Nat.lt_or_ge piv.length n with h | h
    ·exact h
    ·exfalso
     have hle:=hR.le
     have hl:piv.length=n:=by omega
     have hge:∀ a,a<piv.length->a<=nd piv a:=by
      intro a
      induction a with
      | zero=>intro _;exact Nat.zero_le _
      | succ a ih=>intro ha;have:=ih (by omega);have:=hR.inc a (a+1) ha (Nat.lt_succ_self _);omega
     have hd:∀ d,d<n->nd piv (n - 1 - d)<=n - 1 - d:=by
      intro d
      induction d with
      | zero=>intro _;have:=(hR.lt (n - 1) (by omega)).2;simp;omega
      | succ d ih=>intro hd;have:=ih (by omega);have:=hR.inc (n - 1 - (d+1)) (n - 1 - d) (by omega) (by omega);omega
     have h1:=hd (n - 1 - f') (by omega)
     have h2:=hge f' (by omega)
     rw [show n - 1 - (n - 1 - f')=f' by omega] at h1
     exact g2 f' (by omega) (by omega)
 ·rw [if_neg (by simp)]
  exact H2 _ (no M' piv hR (by omega))
end Go.Proofs.Ytlmpoindlejefaa.E
