/- Joined. -/
import Derived.Test.YtlmpoindlejefaaSM20
set_option linter.unusedVariables false
set_option linter.unusedSimpArgs false
namespace Go.Proofs.Ytlmpoindlejefaa.E
open Go Go.RowKit
def lineOf (n:Nat) (X Y:Nat->Rat):Option (Rat×Rat):=
 let d:=(n:Rat)*sm n (fun i=>X i*X i) - sm n X*sm n X
 if d=0 then none
 else
  let a:=((n:Rat)*sm n (fun i=>X i*Y i) - sm n X*sm n Y) / d
  some (a,(sm n Y - a*sm n X) / n)
def toldLine:Option (Rat×Rat)->api_Rat×api_Rat×Int
 | none=>(⟨0,0⟩,⟨0,0⟩,4)
 | some (a,b)=>if (toldR a).2=true/\(toldR b).2=true then ((toldR a).1,(toldR b).1,0) else (⟨0,0⟩,⟨0,0⟩,3)
def lineSpec (x y:List api_Rat):api_Rat×api_Rat×Int:=
 if ¬ (∀ r ∈ x,valid r) then (⟨0,0⟩,⟨0,0⟩,1)
 else if ¬ (∀ r ∈ y,valid r) then (⟨0,0⟩,⟨0,0⟩,1)
 else if (x.length:Int)>64 then (⟨0,0⟩,⟨0,0⟩,3)
 else if (y.length:Int)>64 then (⟨0,0⟩,⟨0,0⟩,3)
 else if (x.length:Int)≠(y.length:Int) then (⟨0,0⟩,⟨0,0⟩,8)
 else toldLine (lineOf x.length (fun i=>ratOf (gd x i)) (fun i=>ratOf (gd y i)))
theorem Sz.one:Sz 1 1:=⟨by decide,by decide⟩
theorem line_two {sxx sx n sxy sy:Rat} {x:Nat->Rat} (h:∀ y:Nat->Rat,(sxx*y 0+sx*y 1=sxy/\sx*y 0+n*y 1=sy) ↔ (y 0=x 0/\y 1=x 1)) (hn:n≠0) (hd:n*sxx - sx*sx≠0):x 0=(n*sxy - sx*sy) / (n*sxx - sx*sx)/\x 1=(sy - (n*sxy - sx*sy) / (n*sxx - sx*sx)*sx) / n:=by
 have e:=(h x).2 ⟨rfl,rfl⟩
 have h1:(n*sxx - sx*sx)*x 0=n*sxy - sx*sy:=by grind
 have h2:x 0=(n*sxy - sx*sy) / (n*sxx - sx*sx):=by
  rw [<- h1,Rat.mul_comm,Rat.mul_div_cancel hd]
 refine ⟨h2,?_⟩
 rw [<- h2]
 have h3:n*x 1=sy - x 0*sx:=by grind
 rw [<- h3,Rat.mul_comm,Rat.mul_div_cancel hn]
section
variable {x y:List api_Rat} {Q:api_Rat×api_Rat×Int->Prop}
theorem dz_two (f z:Nat->Rat):dz 2 f z=f 0*z 0+f 1*z 1:=by
 show 0+f 0*z 0+f 1*z 1=_
 grind
theorem fit_Line_run (lx:x.length<=281474976710656) (ly:y.length<=281474976710656) (H:Q (lineSpec x y)):(fit_Line.f x y).run Q:=by
 unfold lineSpec at H
 unfold fit_Line.f
 refine W.bd (num_AllValid_run lx (W.run_if (fun c=>?_) (fun c=>by
  have c:=of_decide_eq_false (Bool.eq_false_iff.2 c)
  rwa [if_pos c] at H)))
 have vx:=of_decide_eq_true c
 rw [if_neg (fun h=>h vx)] at H
 refine W.bd (num_AllValid_run ly (W.run_if (fun c=>?_) (fun c=>by
  have c:=of_decide_eq_false (Bool.eq_false_iff.2 c)
  rwa [if_pos c] at H)))
 have vy:=of_decide_eq_true c
 rw [if_neg (fun h=>h vy)] at H
 refine W.run_if (fun c=>by rwa [if_pos c] at H) (fun c1=>?_)
 rw [if_neg c1] at H
 refine W.run_if (fun c=>by rwa [if_pos c] at H) (fun c2=>?_)
 rw [if_neg c2] at H
 refine W.run_if (fun c=>by rwa [if_pos c] at H) (fun c3=>?_)
 rw [if_neg c3] at H
 have vx:=(all_valid_iff x).1 vx
 have vy:=(all_valid_iff y).1 vy
 have hxy:x.length=y.length:=by omega
 generalize hX:(fun i=>ratOf (gd x i))=X at H
 generalize hY:(fun i=>ratOf (gd y i))=Y at H
 have eX:∀ i,ratOf (gd x i)=X i:=fun i=>congrFun hX i
 have eY:∀ i,ratOf (gd y i)=Y i:=fun i=>congrFun hY i
 have sX:∀ i,i<x.length->Sz 40 (X i):=fun i hi=>eX i ▸ (vx i hi).sz
 have sY:∀ i,i<x.length->Sz 40 (Y i):=fun i hi=>eY i ▸ (vy i (by omega)).sz
 let R:Nat->Nat->Rat:=fun j a=>if a=0 then X j else 1
 have sR:∀ j a,j<x.length->Sz 40 (R j a):=fun j a hj=>by
  simp only [R]
  split
  ·exact sX j hj
  ·exact Sz.one.mono (by omega)
 refine W.bd (fit_none_run (n:=2) (by omega) fun S hS1 hS2 hS3 hS4=>?_)
 refine W.loop_c (fun s:Int×List (List num_Q)×List num_Q×num_Q×Int=>∃ i:Nat,s.2.2.2.2=i/\i<=x.length/\s.1=(2:Nat)/\QM s.2.1 2 2 (fun a b=>sm i (fun j=>R j a*R j b))/\QL s.2.2.1 2 (fun a=>sm i (fun j=>R j a*Y j))/\QRep s.2.2.2.1 (sm i (fun j=>Y j*Y j))) (fun s=>x.length - s.2.2.2.2.toNat) ⟨0,rfl,Nat.zero_le _,hS1,hS2,hS3,hS4⟩ ?_
 rintro ⟨_,m,v,q,_⟩ P ⟨i,rfl,hi,rfl,h1,h2,h3⟩ hgo hbrk hout
 simp only at h1 h2 h3 hgo |-
 have szG:∀ a b,Sz 5185 (sm i (fun j=>R j a*R j b)):=fun a b=>(Sz.sm (s:=80) fun j hj=>(sR j a (by omega)).mul (sR j b (by omega))).mono (by omega)
 have szV:∀ a,Sz 5185 (sm i (fun j=>R j a*Y j)):=fun a=>(Sz.sm (s:=80) fun j hj=>(sR j a (by omega)).mul (sY j (by omega))).mono (by omega)
 unfold fit_Line.l1
 simp only [gi_gd]
 refine W.run_if (fun c=>?_) (fun c=>hbrk _ ?_)
 ·refine W.req_i (by omega) (W.req_i (by omega) (W.bd (num_Of_run (vx i (by omega)) fun a ha=>W.bd (num_Q_Int_run (n:=1) (by show _/\_;omega) fun b hb=>W.bd (num_Of_run (vy i (by omega)) fun d hd=>W.bd ?_)))))
  rw [eX] at ha
  rw [eY] at hd
  have hrow:QL [a,b] 2 (R i):=by
   refine ⟨rfl,fun j hj=>?_⟩
   rcases (show j=0\/j=1 by omega) with rfl | rfl
   ·exact ha
   ·exact hb
  refine fit_sums_add_run (n:=2) (s:=5185) (t:=40) (A:=fun a b=>sm i (fun j=>R j a*R j b)) (V:=fun a=>sm i (fun j=>R j a*Y j)) rfl (by omega) h1 h2 h3 hrow hd (by omega) (by omega) (fun a b _ _=>szG a b) (fun a _=>szV a) ?_ (fun a _=>sR i a (by omega)) (sY i (by omega)) fun S' k1 k2 k3 k4=>hgo _ ⟨i+1,by simp,by omega,k1,k2,k3,k4⟩ (by simp;omega)
  exact (Sz.sm (s:=80) fun j hj=>(sY j (by omega)).mul (sY j (by omega))).mono (by omega)
 obtain rfl:i=x.length:=by omega
 unfold fit_Line.j1
 simp only
 have g00:sm x.length (fun j=>R j 0*R j 0)=sm x.length (fun i=>X i*X i):=sm_congr fun j _=>by simp [R]
 have g01:sm x.length (fun j=>R j 0*R j 1)=sm x.length X:=sm_congr fun j _=>by simp [R]
 have g10:sm x.length (fun j=>R j 1*R j 0)=sm x.length X:=sm_congr fun j _=>by simp [R]
 have g11:sm x.length (fun j=>R j 1*R j 1)=(x.length:Rat):=by
  have:∀ n:Nat,sm n (fun j=>R j 1*R j 1)=(n:Rat):=by
   intro n
   induction n with
   | zero=>rfl
   | succ n ih=>rw [sm,ih,Rat.natCast_add];simp [R]
  exact this _
 have gv0:sm x.length (fun j=>R j 0*Y j)=sm x.length (fun i=>X i*Y i):=sm_congr fun j _=>by simp [R]
 have gv1:sm x.length (fun j=>R j 1*Y j)=sm x.length Y:=sm_congr fun j _=>by simp [R]
 unfold lineOf at H
 simp only at H
 refine W.bd (fit_solve_run (n:=2) (s:=5185) h1 h2 (by omega) (by simp only [szR];omega) (fun a b _ _=>szG a b) (fun a _=>szV a) (fun out z k1 k2 k3=>?_) (fun z k1 k2=>?_))
 ·rw [if_pos rfl]
  have k2':∀ w:Nat->Rat,(sm x.length (fun i=>X i*X i)*w 0+sm x.length X*w 1=sm x.length (fun i=>X i*Y i)/\sm x.length X*w 0+(x.length:Rat)*w 1=sm x.length Y) ↔ (w 0=z 0/\w 1=z 1):=by
   intro w
   have:=k2 w
   constructor
   ·rintro ⟨e1,e2⟩
    have:=this.1 (fun a ha=>by
     rcases (show a=0\/a=1 by omega) with rfl | rfl
     ·rw [dz_two,g00,g01,gv0];exact e1
     ·rw [dz_two,g10,g11,gv1];exact e2)
    exact ⟨this 0 (by omega),this 1 (by omega)⟩
   ·rintro ⟨e1,e2⟩
    have:=this.2 (fun a ha=>by
     rcases (show a=0\/a=1 by omega) with rfl | rfl
     ·exact e1
     ·exact e2)
    have a0:=this 0 (by omega)
    have a1:=this 1 (by omega)
    rw [dz_two,g00,g01,gv0] at a0
    rw [dz_two,g10,g11,gv1] at a1
    exact ⟨a0,a1⟩
  have hd:(x.length:Rat)*sm x.length (fun i=>X i*X i) - sm x.length X*sm x.length X≠0:=by
   intro hd
   have e:=(k2' z).2 ⟨rfl,rfl⟩
   have e2:=(k2' (fun a=>if a=0 then z 0+(x.length:Rat) else z 1 - sm x.length X)).1 (by
    simp only [if_true,if_neg (show ¬ (1:Nat)=0 by decide)]
    constructor <;> grind)
   simp only [if_true,if_neg (show ¬ (1:Nat)=0 by decide)] at e2
   have hn0:(x.length:Rat)=0:=by grind
   have hx0:sm x.length X=0:=by grind
   have e3:=(k2' (fun a=>if a=0 then z 0 else z 1+1)).1 (by
    simp only [if_true,if_neg (show ¬ (1:Nat)=0 by decide)]
    constructor <;> grind)
   simp only [if_true,if_neg (show ¬ (1:Nat)=0 by decide)] at e3
   grind
  have hn:(x.length:Rat)≠0:=by
   intro hn
   apply hd
   have:x.length=0:=by simpa using hn
   rw [this]
   simp only [sm]
   grind
  obtain ⟨z0,z1⟩:=line_two k2' hn hd
  rw [if_neg hd,<- z1,<- z0] at H
  have hol:=k1.1
  rw [gi_gdi (show (0:Int)=((0:Nat):Int) from rfl),gi_gdi (show (1:Int)=((1:Nat):Int) from rfl)]
  refine W.req_i (by simp only;omega) (W.bd (num_Out_run (k1.2 0 (by omega)) (W.req_i (by simp only;omega) (W.bd (num_Out_run (k1.2 1 (by omega)) ?_)))))
  unfold toldLine at H
  simp only at H |-
  refine W.run_if (fun c4=>W.run_if (fun c5=>?_) (fun c5=>?_)) (fun c4=>?_)
  ·rwa [if_pos ⟨c4,c5⟩] at H
  ·rwa [if_neg (fun h=>c5 h.2)] at H
  ·rwa [if_neg (fun h=>c4 h.1)] at H
 ·rw [if_neg (by simp)]
  have e0:=k2 0 (by omega)
  have e1:=k2 1 (by omega)
  rw [dz_two,g00,g01] at e0
  rw [dz_two,g10,g11] at e1
  have hd:(x.length:Rat)*sm x.length (fun i=>X i*X i) - sm x.length X*sm x.length X=0:=by
   generalize sm x.length (fun i=>X i*X i)=sxx at *
   generalize sm x.length X=sx at *
   generalize (x.length:Rat)=n at *
   have a1:(n*sxx - sx*sx)*z 0=0:=by grind
   have a2:(n*sxx - sx*sx)*z 1=0:=by grind
   obtain ⟨f,hf,hz⟩:=k1
   rcases (show f=0\/f=1 by omega) with rfl | rfl
   ·rcases Rat.mul_eq_zero.1 a1 with e | e
    ·exact e
    ·exact absurd e hz
   ·rcases Rat.mul_eq_zero.1 a2 with e | e
    ·exact e
    ·exact absurd e hz
  rwa [if_pos hd] at H
end
end Go.Proofs.Ytlmpoindlejefaa.E
namespace Go.Proofs.Ytlmpoindlejefaa.E
open Go Go.RowKit
theorem known_spec:lineSpec [⟨0,1⟩,⟨1,1⟩,⟨2,1⟩] [⟨1,1⟩,⟨2,1⟩,⟨4,1⟩] =(⟨3,2⟩,⟨5,6⟩,0):=by decide +kernel
theorem law27_known_run {Q:Bool->Prop} (H:Q true):law27_known.f.run Q:=by
 unfold law27_known.f
 refine W.req_i (by simp) (W.req_i (by simp) (W.bd (fit_Line_run (by simp) (by simp) ?_)))
 have e:lineSpec ([⟨0,1⟩,⟨1,1⟩,⟨2,1⟩,⟨4,1⟩].take (3:Int).toNat) ([⟨0,1⟩,⟨1,1⟩,⟨2,1⟩,⟨4,1⟩].drop (1:Int).toNat)=(⟨3,2⟩,⟨5,6⟩,0):=known_spec
 rw [e]
 exact H
end Go.Proofs.Ytlmpoindlejefaa.E
