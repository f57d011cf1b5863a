/- Joined. -/
import Derived.Test.YtlmpoindlejefaaBM17
import Derived.Test.YtlmpoindlejefaaBM30
import Derived.Test.YtlmpoindlejefaaBM34
set_option linter.unusedVariables false
set_option linter.unusedSimpArgs false
namespace Go.Proofs.Ytlmpoindlejefaa.E
open Go Go.RowKit
section
variable {n:Nat} {A:Nat->Nat->Rat} {V x y z lo hi:Nat->Rat} {q:Rat}
def slp (n:Nat) (A:Nat->Nat->Rat) (V x:Nat->Rat) (i:Nat):Rat:=dz n (A i) x - V i
def quad (n:Nat) (A:Nat->Nat->Rat) (d:Nat->Rat):Rat:=sm n fun i=>d i*dz n (A i) d
def PD (n:Nat) (A:Nat->Nat->Rat):Prop:=(∀ i k,A i k=A k i)/\(∀ d,0<=quad n A d)/\∀ d,quad n A d=0->∀ i,i<n->d i=0
theorem sm_sym (hs:∀ i k,A i k=A k i) (x y:Nat->Rat):sm n (fun i=>x i*dz n (A i) y)=sm n (fun i=>y i*dz n (A i) x):=by
 unfold dz
 rw [zAW (g:=fun i=>sm n fun k=>x i*(A i k*y k)) fun i _=>(zDl n (x i) _).symm,zEd]
 exact zAW fun k _=>by rw [<- zDl];exact zAW fun i _=>by rw [hs i k];grind
theorem F_exp (hs:∀ i k,A i k=A k i) (x y:Nat->Rat):errQ n A V q y=errQ n A V q x+sm n (fun i=>slp n A V x i*(y i - x i))*2+quad n A (fun i=>y i - x i):=by
 have e1:quad n A (fun i=>y i - x i)=sm n (fun i=>y i*dz n (A i) y) - sm n (fun i=>y i*dz n (A i) x) - sm n (fun i=>x i*dz n (A i) y)+sm n (fun i=>x i*dz n (A i) x):=by
  unfold quad
  rw [<- zEy,<- zEy,<- zER]
  exact zAW fun i _=>by dsimp only;rw [dz_minus];grind
 have e2:sm n (fun i=>slp n A V x i*(y i - x i))=sm n (fun i=>y i*dz n (A i) x) - sm n (fun i=>x i*dz n (A i) x) - (sm n (fun i=>V i*y i) - sm n (fun i=>V i*x i)):=by
  rw [<- zEy,<- zEy,<- zEy]
  exact zAW fun i _=>by unfold slp;grind
 have e3:=sm_sym (n:=n) hs x y
 have e4:∀ w,errQ n A V q w=q - sm n (fun i=>V i*w i)*2+sm n (fun i=>w i*dz n (A i) w):=fun w=>rfl
 rw [e1,e2,e3,e4,e4]
 grind
theorem sm_nn {f:Nat->Rat} (h:∀ i,i<n->0<=f i):0<=sm n f:=by
 induction n with
 | zero=>exact Rat.le_refl
 | succ n ih=>rw [sm];exact Rat.add_nonneg (ih fun i hi=>h i (by omega)) (h n (by omega))
theorem zEv (h:∀ i,i<n->x i=y i):errQ n A V q x=errQ n A V q y:=by
 have e1:sm n (fun i=>V i*x i)=sm n (fun i=>V i*y i):=zAW fun i hi=>by rw [h i hi]
 have e2:∀ i,sm n (fun k=>A i k*x k)=sm n (fun k=>A i k*y k):=fun i=>zAW fun k hk=>by rw [h k hk]
 have e3:sm n (fun i=>x i*sm n (fun k=>A i k*x k))=sm n (fun i=>y i*sm n (fun k=>A i k*y k)):=zAW fun i hi=>by rw [h i hi,e2]
 unfold errQ
 rw [e1,e3]
theorem zHA (h:∀ i,i<n->x i=y i) (i:Nat):slp n A V x i=slp n A V y i:=by
 unfold slp dz
 rw [zAW fun k hk=>by rw [h k hk]]
theorem zHd (h:∀ i,i<n->x i=y i):quad n A x=quad n A y:=by
 unfold quad dz
 refine zAW fun i hi=>?_
 rw [h i hi,zAW (g:=fun k=>A i k*y k) fun k hk=>by rw [h k hk]]
def KKT (n:Nat) (A:Nat->Nat->Rat) (V lo hi x:Nat->Rat):Prop:=∀ i,i<n->lo i<=x i/\x i<=hi i/\(lo i=hi i\/slp n A V x i=0\/(x i=lo i/\0<=slp n A V x i)\/(x i=hi i/\slp n A V x i<=0))
theorem zDw {a b:Rat} (ha:0<=a) (hb:0<=b):0<=a*b:=Rat.mul_nonneg ha hb
theorem KKT.term (h:KKT n A V lo hi x) (hy:∀ i,i<n->lo i<=y i/\y i<=hi i) {i:Nat} (hi':i<n):0<=slp n A V x i*(y i - x i):=by
 obtain ⟨h1,h2,h3⟩:=h i hi'
 obtain ⟨y1,y2⟩:=hy i hi'
 rcases h3 with e | e | ⟨e,g⟩ | ⟨e,g⟩
 ·have:y i - x i=0:=by grind
  rw [this,Rat.mul_zero];exact Rat.le_refl
 ·rw [e,Rat.zero_mul];exact Rat.le_refl
 ·exact zDw g (by grind)
 ·have:=zDw (a:=-slp n A V x i) (b:=x i - y i) (by grind) (by grind)
  grind
theorem KKT.best (hp:PD n A) (h:KKT n A V lo hi x) (hy:∀ i,i<n->lo i<=y i/\y i<=hi i):errQ n A V q x<=errQ n A V q y:=by
 have e:=F_exp (n:=n) (V:=V) (q:=q) hp.1 x y
 have h1:=sm_nn (n:=n) (f:=fun i=>slp n A V x i*(y i - x i)) fun i hi=>h.term hy hi
 have h2:=hp.2.1 fun i=>y i - x i
 grind
def FM (n:Nat) (A:Nat->Nat->Rat) (V:Nat->Rat) (φ:Nat->Bool) (x y:Nat->Rat):Prop:=(∀ i,i<n->φ i=true->y i=x i)/\∀ i,i<n->φ i=false->slp n A V y i=0
variable {φ:Nat->Bool} {t:Rat}
theorem FM.orth (h:FM n A V φ x y):sm n (fun i=>slp n A V y i*(x i - y i))=0:=zCz fun i hi=>by
 by_cases e:φ i=true
 ·rw [h.1 i hi e];grind
 ·rw [h.2 i hi (by simpa using e),Rat.zero_mul]
theorem FM.val (hp:PD n A) (h:FM n A V φ x y):errQ n A V q x=errQ n A V q y+quad n A (fun i=>x i - y i):=by
 rw [F_exp (n:=n) (V:=V) (q:=q) hp.1 y x,h.orth]
 grind
theorem FM.cong {x':Nat->Rat} (h:FM n A V φ x y) (e:∀ i,i<n->φ i=true->x i=x' i):FM n A V φ x' y:=⟨fun i hi f=>(h.1 i hi f).trans (e i hi f),h.2⟩
theorem FM.uniq (hp:PD n A) (h:FM n A V φ x y) (k:FM n A V φ x z):∀ i,i<n->y i=z i:=by
 have h1:FM n A V φ z y:=h.cong fun i hi f=>(k.1 i hi f).symm
 have h2:FM n A V φ y z:=k.cong fun i hi f=>(h.1 i hi f).symm
 have a:=h1.val (q:=0) hp
 have b:=h2.val (q:=0) hp
 have p1:=hp.2.1 fun i=>z i - y i
 have p2:=hp.2.1 fun i=>y i - z i
 have h3:=hp.2.2 (fun i=>y i - z i) (by grind)
 intro i hi
 have:=h3 i hi
 grind
theorem zHc (c:Rat) (d:Nat->Rat):quad n A (fun i=>c*d i)=c*c*quad n A d:=by
 unfold quad
 rw [<- zDl]
 refine zAW fun i _=>?_
 have:dz n (A i) (fun i=>c*d i)=c*dz n (A i) d:=by unfold dz;rw [<- zDl];exact zAW fun k _=>by grind
 rw [this]
 grind
theorem FM.way (hp:PD n A) (h:FM n A V φ x y) (t:Rat):errQ n A V q (fun i=>x i+t*(y i - x i))=errQ n A V q y+(1 - t)*(1 - t)*quad n A (fun i=>x i - y i):=by
 have h1:FM n A V φ (fun i=>x i+t*(y i - x i)) y:=h.cong fun i hi f=>by rw [h.1 i hi f];grind
 rw [h1.val hp,zHd (y:=fun i=>(1 - t)*(x i - y i)) fun i _=>by grind,zHc]
theorem FM.le (hp:PD n A) (h:FM n A V φ x y) (t0:0<=t) (t1:t<=1):errQ n A V q (fun i=>x i+t*(y i - x i))<=errQ n A V q x:=by
 rw [h.way hp,h.val hp]
 have p:=hp.2.1 fun i=>x i - y i
 have:0<=(1 - (1 - t)*(1 - t))*quad n A (fun i=>x i - y i):=zDw (by have:=zDw t0 (show 0<=1+(1 - t) by grind);grind) p
 grind
theorem FM.lt (hp:PD n A) (h:FM n A V φ x y) (t0:0<t) (t1:t<=1) (hne:∃ i,i<n/\x i≠y i):errQ n A V q (fun i=>x i+t*(y i - x i))<errQ n A V q x:=by
 rw [h.way hp,h.val hp]
 have p:=hp.2.1 fun i=>x i - y i
 have p1:0<quad n A (fun i=>x i - y i):=by
  refine Rat.lt_of_le_of_ne p fun e=>?_
  obtain ⟨i,hi,hx⟩:=hne
  have:=hp.2.2 _ e.symm i hi
  grind
 have p2:0<1 - (1 - t)*(1 - t):=by
  have:=Rat.mul_pos t0 (show 0<1+(1 - t) by grind)
  grind
 have:=Rat.mul_pos p2 p1
 grind
theorem FM.moves (hp:PD n A) (h:FM n A V φ x y) {j:Nat} (hj:j<n) (fj:φ j=false) (gj:slp n A V x j≠0) (g0:∀ i,i<n->φ i=false->i≠j->slp n A V x i=0):slp n A V x j*(y j - x j)<0:=by
 have e1:=F_exp (n:=n) (V:=V) (q:=(0:Rat)) hp.1 x y
 have e2:=h.val (q:=(0:Rat)) hp
 have e3:sm n (fun i=>slp n A V x i*(y i - x i))=slp n A V x j*(y j - x j):=zHZ hj fun i hi hne=>by
  by_cases e:φ i=true
  ·rw [h.1 i hi e];grind
  ·rw [g0 i hi (by simpa using e) hne,Rat.zero_mul]
 have e4:quad n A (fun i=>y i - x i)=quad n A (fun i=>x i - y i):=by
  rw [zHd (y:=fun i=>(-1)*(x i - y i)) fun i _=>by grind,zHc]
  grind
 have p:=hp.2.1 fun i=>x i - y i
 have p1:0<quad n A (fun i=>x i - y i):=by
  refine Rat.lt_of_le_of_ne p fun e=>gj ?_
  have h3:=hp.2.2 _ e.symm
  rw [zHA (y:=y) (fun i hi=>by have:=h3 i hi;grind) j]
  exact h.2 j hj fj
 grind
end
end Go.Proofs.Ytlmpoindlejefaa.E
namespace Go.Proofs.Ytlmpoindlejefaa.E
open Go Go.RowKit
def allS:Nat->List (List Nat)
 | 0=>[[]]
 | n+1=>(allS n).flatMap fun l=>[l ++ [0],l ++ [1],l ++ [2]]
theorem zIG (σ:Nat->Nat):∀ n,(∀ i,i<n->σ i<3)->(List.range n).map σ ∈ allS n
 | 0,_=>by simp [allS]
 | n+1,h=>by
  have ih:=zIG σ n fun i hi=>h i (by omega)
  rw [List.range_succ,List.map_append,allS,List.mem_flatMap]
  refine ⟨_,ih,?_⟩
  have:=h n (by omega)
  have e:σ n=0\/σ n=1\/σ n=2:=by omega
  rcases e with e | e | e <;> simp [e]
theorem zIv {α:Type} {l:List α} {p r:α->Bool} (h:∀ a,p a=true->r a=true) {b:α} (hb:b ∈ l) (h1:r b=true) (h2:p b=false):(l.filter p).length<(l.filter r).length:=by
 have le:∀ l:List α,(l.filter p).length<=(l.filter r).length:=fun l=>by
  induction l with
  | nil=>simp
  | cons a l ih=>
   rw [List.filter_cons,List.filter_cons]
   by_cases e:p a=true
   ·rw [if_pos e,if_pos (h a e)];simp;exact ih
   ·rw [if_neg e]
    split
    ·simp;omega
    ·exact ih
 induction l with
 | nil=>cases hb
 | cons a l ih=>
  rw [List.filter_cons,List.filter_cons]
  rcases List.mem_cons.1 hb with rfl | hb
  ·rw [if_neg (by simp [h2]),if_pos h1]
   have:=le l
   simp;omega
  ·have:=ih hb
   by_cases e:p a=true
   ·rw [if_pos e,if_pos (h a e)];simp;omega
   ·rw [if_neg e]
    split
    ·simp;omega
    ·exact this
theorem W.loop_g {S R β:Type} {body:S->W (Ctl S R)} {s:S} {D:S->W β} {O:R->W β} {Q:β->Prop} (J:S->Nat->Prop) (h0:∃ m,J s m)
  (h:∀ s m P,J s m->(∀ s' m',J s' m'->m'<m->P (.go s'))->(∀ s',(D s').run Q->P (.brk s'))->(∀ r,(O r).run Q->P (.out r))->(body s).run P):(W.bind (W.loop body s) (Lp.on D O)).run Q:=by
 classical
 have least:∀ s,(∃ m,J s m)->∃ m,J s m/\∀ m',J s m'->m<=m':=fun s ⟨m,hm⟩=>by
  induction m using Nat.strongRecOn with
  | _ m ih=>
   by_cases e:∃ m',m'<m/\J s m'
   ·obtain ⟨m',hlt,hj⟩:=e
    exact ih m' hlt hj
   ·exact ⟨m,hm,fun m' hj=>by
     by_cases c:m<=m'
     ·exact c
     ·exact absurd ⟨m',by omega,hj⟩ e⟩
 refine W.loop_c (fun s=>∃ m,J s m) (fun s=>if h:∃ m,J s m then Classical.choose (least s h) else 0) h0 ?_
 intro s P hs hgo hbrk hout
 obtain ⟨hm,hle⟩:=Classical.choose_spec (least s hs)
 refine h s _ P hm (fun s' m' hj hlt=>hgo s' ⟨m',hj⟩ ?_) hbrk hout
 simp only [dif_pos hs,dif_pos (show ∃ m,J s' m from ⟨m',hj⟩)]
 have:=(Classical.choose_spec (least s' ⟨m',hj⟩)).2 m' hj
 omega
section
variable {n:Nat} {A:Nat->Nat->Rat} {V x y z lo hi:Nat->Rat} {q:Rat}
def MatchS (n:Nat) (A:Nat->Nat->Rat) (V lo hi:Nat->Rat) (σ:List Nat) (x:Nat->Rat):Prop:=∀ i,i<n->(gd σ i=0/\slp n A V x i=0)\/(gd σ i=1/\x i=lo i)\/(gd σ i=2/\x i=hi i)
theorem MatchS.uniq {σ:List Nat} (hp:PD n A) (h:MatchS n A V lo hi σ x) (k:MatchS n A V lo hi σ y):∀ i,i<n->x i=y i:=by
 have h1:FM n A V (fun i=>decide (gd σ i≠0)) y x:=by
  refine ⟨fun i hi f=>?_,fun i hi f=>?_⟩
  ·have f:=of_decide_eq_true f
   rcases h i hi with ⟨a,_⟩ | ⟨a,b⟩ | ⟨a,b⟩
   ·exact absurd a f
   ·rcases k i hi with ⟨c,_⟩ | ⟨c,e⟩ | ⟨c,e⟩
    ·omega
    ·rw [b,e]
    ·omega
   ·rcases k i hi with ⟨c,_⟩ | ⟨c,e⟩ | ⟨c,e⟩
    ·omega
    ·omega
    ·rw [b,e]
  ·have f:=of_decide_eq_false f
   rcases h i hi with ⟨a,b⟩ | ⟨a,b⟩ | ⟨a,b⟩
   ·exact b
   ·omega
   ·omega
 have h2:FM n A V (fun i=>decide (gd σ i≠0)) y y:=by
  refine ⟨fun i hi f=>rfl,fun i hi f=>?_⟩
  have f:=of_decide_eq_false f
  rcases k i hi with ⟨a,b⟩ | ⟨a,b⟩ | ⟨a,b⟩
  ·exact b
  ·omega
  ·omega
 exact h1.uniq hp h2
theorem zI3 (hp:PD n A) (V lo hi:Nat->Rat) (q:Rat):∃ μ:(Nat->Rat)->Nat,(∀ x x',(∀ i,i<n->x i=x' i)->μ x=μ x')/\∀ x x',(∃ σ,σ ∈ allS n/\MatchS n A V lo hi σ x')->errQ n A V q x'<errQ n A V q x->μ x'<μ x:=by
 classical
 refine ⟨fun x=>((allS n).filter fun σ=>decide (∃ z,MatchS n A V lo hi σ z/\errQ n A V q z<errQ n A V q x)).length,fun x x' e=>by dsimp only;rw [zEv e],fun x x' ⟨σ,hσ,hm⟩ hlt=>?_⟩
 refine zIv (fun σ' h=>?_) hσ (decide_eq_true ⟨x',hm,hlt⟩) (decide_eq_false fun ⟨z,h1,h2⟩=>?_)
 ·obtain ⟨z,h1,h2⟩:=of_decide_eq_true h
  exact decide_eq_true ⟨z,h1,Std.lt_trans h2 hlt⟩
 ·rw [zEv (h1.uniq hp hm)] at h2
  exact absurd h2 (Rat.lt_irrefl)
theorem match_ex {φ:Nat->Bool} (h1:∀ i,i<n->φ i=true->x i=lo i\/x i=hi i) (h2:∀ i,i<n->φ i=false->slp n A V x i=0):∃ σ,σ ∈ allS n/\MatchS n A V lo hi σ x:=by
 let σ:Nat->Nat:=fun i=>if φ i=true then (if x i=lo i then 1 else 2) else 0
 refine ⟨(List.range n).map σ,zIG σ n fun i _=>by show (if _ then _ else _)<3;split;split <;> omega;omega,fun i hi=>?_⟩
 have e:gd ((List.range n).map σ) i=σ i:=by rw [zHN (by simpa using hi)];simp
 rw [e]
 show ((if _ then _ else _)=0/\_)\/_
 by_cases f:φ i=true
 ·by_cases g:x i=lo i
  ·exact .inr (.inl ⟨by show (if _ then _ else _)=1;rw [if_pos f,if_pos g],g⟩)
  ·refine .inr (.inr ⟨by show (if _ then _ else _)=2;rw [if_pos f,if_neg g],?_⟩)
   rcases h1 i hi f with a | a
   ·exact absurd a g
   ·exact a
 ·exact .inl ⟨by rw [if_neg f],h2 i hi (by simpa using f)⟩
def CdV (n s:Nat) (x:Nat->Rat):Prop:=∃ d:Int,d≠0/\Bt s d/\∀ i,i<n->Fd d s (x i)
theorem CdV.sz {s:Nat} (h:CdV n s x) {i:Nat} (hi:i<n):Sz s (x i):=by
 obtain ⟨d,d0,d1,d2⟩:=h
 exact (d2 i hi).sz d0 d1
theorem way_eq {X K p g W:Rat} (hK:K≠0) (hg:g≠0):X / K+(p / K) / (g / K)*(W / K)=(X*g+p*W) / (K*g):=by
 rw [Rat.div_def,Rat.div_def,Rat.div_def,Rat.div_def,Rat.div_def,Rat.div_def]
 have h1:(g*K⁻¹)⁻¹=g⁻¹*K:=by
  refine Rat.inv_eq_of_mul_eq_one ?_ |>.trans rfl
  grind
 rw [h1]
 have h2:(K*g)⁻¹=K⁻¹*g⁻¹:=by
  refine Rat.inv_eq_of_mul_eq_one ?_
  grind
 rw [h2]
 grind
theorem CdV.way {S T:Nat} {b:Rat} {dB:Int} {s:Nat} (hx:CdV n S x) (hy:CdV n T y) (b0:dB≠0) (b1:Bt 961 dB) (b2:Fd dB 961 b) (hs:s<n) (hne:y s≠x s):CdV n (2*(S+T+961)+3) (fun i=>x i+(b - x s) / (y s - x s)*(y i - x i)):=by
 obtain ⟨D,D0,D1,D2⟩:=hx
 obtain ⟨E,E0,E1,E2⟩:=hy
 have K0:D*(E*dB)≠0:=Int.mul_ne_zero D0 (Int.mul_ne_zero E0 b0)
 have kx:∀ i,i<n->Fd (D*(E*dB)) (S+T+961) (x i):=fun i hi=>((D2 i hi).up D0 (Int.mul_ne_zero E0 b0) (E1.mul b1)).mono (by omega)
 have ky:∀ i,i<n->Fd (D*(E*dB)) (S+T+961) (y i):=fun i hi=>by
  have:=(E2 i hi).up E0 (Int.mul_ne_zero D0 b0) (D1.mul b1)
  rw [show E*(D*dB)=D*(E*dB) by grind] at this
  exact this.mono (by omega)
 have kb:Fd (D*(E*dB)) (S+T+961) b:=by
  have:=b2.up b0 (Int.mul_ne_zero D0 E0) (D1.mul E1)
  rw [show dB*(D*E)=D*(E*dB) by grind] at this
  exact this.mono (by omega)
 have bK:Bt (S+T+961) (D*(E*dB)):=(D1.mul (E1.mul b1)).mono (by omega)
 generalize D*(E*dB)=K at K0 kx ky kb bK
 clear b1 b2 D1 D2 E1 E2
 obtain ⟨m,hm⟩:∃ m,m=S+T+961:=⟨_,rfl⟩
 simp only [<- hm] at kx ky kb bK |-
 obtain ⟨p,p1,p2⟩:=kb.sub (kx s hs)
 obtain ⟨g,g1,g2⟩:=(ky s hs).sub (kx s hs)
 have hK:=zGd K0
 have g0:g≠0:=fun e=>hne (by
  rw [e,zHE] at g1
  clear p2 p1 g2 kx ky kb bK hm
  grind)
 have hg:=zGd g0
 refine ⟨K*g,Int.mul_ne_zero K0 g0,(bK.mul (show Bt (m+1) g from g2)).mono (by omega),fun i hi=>?_⟩
 obtain ⟨X,X1,X2⟩:=kx i hi
 obtain ⟨W,W1,W2⟩:=(ky i hi).sub (kx i hi)
 refine ⟨X*g+p*W,?_,?_⟩
 ·dsimp only
  rw [W1,p1,g1,X1,way_eq hK hg]
  simp [Rat.intCast_add,Rat.intCast_mul]
 ·have e1:Bt (m+(m+1)) (X*g):=Bt.mul X2 g2
  have e2:Bt (m+1+(m+1)) (p*W):=Bt.mul p2 W2
  have e3:=e1.mono (show m+(m+1)<=2*m+2 by omega)
  have e4:=e2.mono (show m+1+(m+1)<=2*m+2 by omega)
  have e5:(X*g+p*W).natAbs<=(X*g).natAbs+(p*W).natAbs:=Int.natAbs_add_le _ _
  unfold Bt at e3 e4
  rw [Nat.pow_succ]
  omega
def szK (T:Nat):Nat->Nat
 | 0=>T
 | k+1=>2*(szK T k+T+961)+3
theorem szK_mono (T:Nat) {k m:Nat} (h:k<=m):szK T k<=szK T m:=by
 induction m with
 | zero=>rw [show k=0 by omega];exact Nat.le_refl _
 | succ m ih=>
  by_cases e:k=m+1
  ·rw [e];exact Nat.le_refl _
  ·have:=ih (by omega)
   rw [szK];omega
theorem szK_12 {T k:Nat} (hT:T<=60000000) (hk:k<=12):szK T k<=750000000000:=by
 have h1:=szK_mono T hk
 have h2:szK T 12<=750000000000:=by simp only [szK];omega
 omega
end
end Go.Proofs.Ytlmpoindlejefaa.E
namespace Go.Proofs.Ytlmpoindlejefaa.E
open Go Go.RowKit
def Tri (r:Int) (x y:Rat):Prop:=r<0/\x<y\/r=0/\x=y\/0<r/\y<x
section
variable {r:Int} {x y:Rat}
theorem Tri.lt (h:Tri r x y):r<0 ↔ x<y:=by
 rcases h with ⟨a,b⟩ | ⟨a,b⟩ | ⟨a,b⟩ <;> constructor <;> intro c <;> first | omega | grind
theorem Tri.eq (h:Tri r x y):r=0 ↔ x=y:=by
 rcases h with ⟨a,b⟩ | ⟨a,b⟩ | ⟨a,b⟩ <;> constructor <;> intro c <;> first | omega | grind
theorem Tri.gt (h:Tri r x y):r>0 ↔ y<x:=by
 rcases h with ⟨a,b⟩ | ⟨a,b⟩ | ⟨a,b⟩ <;> constructor <;> intro c <;> first | omega | grind
theorem Tri.le (h:Tri r x y):r<=0 ↔ x<=y:=by
 rcases h with ⟨a,b⟩ | ⟨a,b⟩ | ⟨a,b⟩ <;> constructor <;> intro c <;> first | omega | grind
theorem Tri.ge (h:Tri r x y):r>=0 ↔ y<=x:=by
 rcases h with ⟨a,b⟩ | ⟨a,b⟩ | ⟨a,b⟩ <;> constructor <;> intro c <;> first | omega | grind
theorem zIk:x.num*(y.den:Int)<y.num*(x.den:Int) ↔ x<y:=(Rat.lt_iff _ _).symm
theorem rat_eqx:x.num*(y.den:Int)=y.num*(x.den:Int) ↔ x=y:=by
 have h:=Rat.divInt_eq_divInt_iff (n₁:=x.num) (n₂:=y.num) (zDb x) (zDb y)
 rw [Rat.num_divInt_den,Rat.num_divInt_den] at h
 exact h.symm
theorem zIg {r a b:Int} (h:r<0/\a<b\/r=0/\a=b\/0<r/\b<a) (e1:a=x.num*(y.den:Int)) (e2:b=y.num*(x.den:Int)):Tri r x y:=by
 subst e1 e2
 rcases h with ⟨a,b⟩ | ⟨a,b⟩ | ⟨a,b⟩
 ·exact .inl ⟨a,zIk.1 b⟩
 ·exact .inr (.inl ⟨a,rat_eqx.1 b⟩)
 ·exact .inr (.inr ⟨a,zIk.1 b⟩)
theorem tri_sgn:Tri (sgn (x.num*(y.den:Int) - y.num*(x.den:Int))) x y:=by
 refine zIg ?_ rfl rfl
 unfold sgn
 split
 ·omega
 ·split <;> omega
theorem zAz {a b:zAD} {Q:Int->Prop} (ha:QRep a x) (hb:QRep b y) (ox:Ok x) (oy:Ok y) (H:∀ r,Tri r x y->Q r):(zBJ.f a b).run Q:=by
 obtain ⟨s,hs,sx⟩:=ox
 obtain ⟨t,ht,sy⟩:=oy
 unfold zBJ.f
 have b1:=zA8 sx.1 (zBD sy)
 have b2:=zA8 sy.1 (zBD sx)
 exact W.bd (zCH ha.n hb.d (by omega) (by omega) sx.1 (zBD sy) fun u hu=>W.bd (zCH hb.n ha.d (by omega) (by omega) sy.1 (zBD sx) fun v hv=>W.bd (zGV hu hv (s:=s+t) (by omega) b1 (by rw [Nat.add_comm];exact b2) (H _ tri_sgn))))
theorem zCY {a:zAD} {Q:Int->Prop} (ha:QRep a x) (H:∀ r,Tri r x 0->Q r):(zB9.f a).run Q:=by
 unfold zB9.f
 refine W.bd (zC1 ha.n (H _ (zIg (a:=x.num) (b:=0) ?_ ?_ ?_)))
 ·unfold sgn
  split
  ·omega
  ·split <;> omega
 ·simp
 ·simp
theorem zEP {S:zAc} {l:List zAD} {n:Nat} {A:Nat->Nat->Rat} {V x:Nat->Rat} {q:Rat} {Q:List zAD->Prop} (hS:Sums S n A V q) (hn:n<=12) (hx:QL l n x) (z:Small 973 n A V q) (sx:∀ i,i<n->Sz 16400000000 (x i)) (H:∀ o,QL o n (slp n A V x)->Q o):(zAt.f S l).run Q:=by
 have hxl:=hx.1
 have hml:=hS.hm.1
 have hvl:=hS.hv.1
 have hsn:=hS.hn
 unfold zAt.f
 rw [hsn,Int.toNat_natCast]
 refine W.req_i (by omega) ?_
 refine W.loop_c (fun s:List zAD×Int=>∃ i:Nat,s.2=i/\i<=n/\s.1.length=n/\∀ j,j<i->QRep (gd s.1 j) (slp n A V x j)) (fun s=>n - s.2.toNat) ⟨0,rfl,Nat.zero_le _,by simp,fun j hj=>by omega⟩ ?_
 rintro ⟨l',_⟩ P ⟨i,rfl,hi,h1,h2⟩ hgo hbrk hout
 simp only at h1 h2 hgo |-
 unfold zAt.l1
 simp only [zCI,hsn,Int.toNat_natCast,List.length_replicate]
 refine W.run_if (fun c=>?_) (fun c=>hbrk _ (H _ ⟨h1,fun j hj=>h2 j (by omega)⟩))
 have hin:i<n:=by omega
 have zr:Sz 196800011689 (sm n (fun k=>A i k*x k)):=(Sz.sm fun k hk=>(z.a i k hin hk).mul (sx k hk)).mono (by omega)
 refine W.req_i (by omega) (W.req_i (by omega) (W.bd (zEQ (hS.hm.2 i hin) hx (by omega) (by omega) (fun k hk=>z.a i k hin hk) sx fun e he=>W.bd (zCS he (hS.hv.2 i hin) (zr.ok (by omega)) ((z.v i hin).ok (by omega)) fun u hu=>W.req_i (by omega) (hgo _ ⟨i+1,by simp,by omega,by simp [h1],fun j hj=>?_⟩ (by simp;omega))))))
 simp only [Int.toNat_natCast]
 rw [zCX]
 by_cases e:i=j
 ·subst e;rw [if_pos ⟨rfl,by omega⟩];exact hu
 ·rw [if_neg (by omega)];exact h2 j (by omega)
end
def okB (m:zAh) (b:List zAC) (l:zAm):Prop:=okA m b/\(∀ r ∈ l.Lo,valid r)/\∀ r ∈ l.Hi,valid r
def fitB (m:zAh) (b:List zAC) (l:zAm):Prop:=(b.length:Int)=m.R/\(l.Lo.length:Int)=m.C/\(l.Hi.length:Int)=m.C
theorem zDz {m:zAh} {b:List zAC} {l:zAm} {Q:Int->Prop} (hl:m.V.length<=281474976710656) (hb:b.length<=281474976710656) (h1:l.Lo.length<=281474976710656) (h2:l.Hi.length<=281474976710656)
  (H1: ¬ okB m b l->Q 1) (H8:okB m b l->¬ fitB m b l->Q 8) (H0:okB m b l->fitB m b l->Q 0):(zC0.f m b l).run Q:=by
 unfold zC0.f
 refine W.bd (zFc hl hb (fun ok vb=>?_) (fun c=>?_))
 ·rw [if_neg (by decide)]
  refine W.bd (zBs h1 (W.run_if (fun c=>?_) (fun c=>H1 fun h=>c (decide_eq_true h.2.1))))
  refine W.bd (zBs h2 (W.run_if (fun c2=>?_) (fun c2=>H1 fun h=>c2 (decide_eq_true h.2.2))))
  have ok:okB m b l:=⟨⟨ok,vb⟩,of_decide_eq_true c,of_decide_eq_true c2⟩
  refine W.run_if (fun e=>H8 ok fun h=>e h.1) (fun e1=>W.run_if (fun e=>H8 ok fun h=>e h.2.1) (fun e2=>W.run_if (fun e=>H8 ok fun h=>e h.2.2) (fun e3=>H0 ok ⟨?_,?_,?_⟩))) <;> omega
 ·rw [if_pos (by decide)]
  exact H1 fun h=>c h.1
end Go.Proofs.Ytlmpoindlejefaa.E
