/- Joined. -/
import Derived.Test.YtbjnmmgnonldnaaKF0
set_option linter.unusedVariables false
set_option linter.unusedSimpArgs false
namespace Go.Proofs.Ytbjnmmgnonldnaa.E
open Go Go.RowKit
inductive Rfr (E:Nat->List Nat) (col:Nat->Option Nat) (j:Nat):Nat->Prop
 | refl:Rfr E col j j
 | step {i k i':Nat} :Rfr E col j i->k ∈ E i->col k=some i'->Rfr E col j i'
theorem Rfr.head {E:Nat->List Nat} {col:Nat->Option Nat} {j k j' i:Nat} (hk:k ∈ E j) (hc:col k=some j') (h:Rfr E col j' i):Rfr E col j i:=by
 induction h with
 | refl=>exact Rfr.refl.step hk hc
 | step _ a b ih=>exact ih.step a b
def zr (l:List Int) (i:Nat):Prop:=i<l.length/\gd l i=0
structure Ovr (E:Nat->List Nat) (col:Nat->Option Nat) (j:Nat) (rows cols rows' cols':List Int):Prop where
 rl:rows'.length=rows.length
 cl:cols'.length=cols.length
 rup:∀ i,zr rows i->zr rows' i
 cup:∀ k,zr cols k->zr cols' k
 ron:∀ i,¬ zr rows' i->gd rows' i=gd rows i
 con:∀ k,¬ zr cols' k->gd cols' k=gd cols k
 clo:∀ i,zr rows' i->¬ zr rows i->∀ k,k ∈ E i->zr cols' k/\∀ i',col k=some i'->zr rows' i'
 rso:∀ i,zr rows' i->zr rows i\/Rfr E col j i
 cso:∀ k,zr cols' k->zr cols k\/∃ i,Rfr E col j i/\k ∈ E i
section
variable {E:Nat->List Nat} {col:Nat->Option Nat} {j:Nat} {rows cols rows' cols' rows2 cols2:List Int}
theorem Ovr.refl:Ovr E col j rows cols rows cols:=⟨rfl,rfl,fun _ h=>h,fun _ h=>h,fun _ _=>rfl,fun _ _=>rfl,fun _ h g=>absurd h g,fun _ h=>.inl h,fun _ h=>.inl h⟩
def unr (l:List Int):Nat:=((List.range l.length).filter fun i=>decide (gd l i≠0)).length
theorem unr_lt {l l':List Int} {i:Nat} (hl:l'.length=l.length) (hi:i<l.length) (h0:gd l i≠0) (h1:gd l' i=0) (h:∀ x,zr l x->zr l' x):unr l'<unr l:=by
 unfold unr
 rw [hl]
 have sub:∀ x,x ∈ (List.range l.length).filter (fun i=>decide (gd l' i≠0))->x ∈ ((List.range l.length).filter fun i=>decide (gd l i≠0)).erase i:=fun x hx=>by
  obtain ⟨x1,x2⟩:=List.mem_filter.1 hx
  have x1:=List.mem_range.1 x1
  have x2:=of_decide_eq_true x2
  have nd:((List.range l.length).filter fun i=>decide (gd l i≠0)).Nodup:=nodup_fil List.nodup_range
  rw [nd.mem_erase_iff]
  refine ⟨fun e=>x2 (e ▸ h1),List.mem_filter.2 ⟨List.mem_range.2 x1,decide_eq_true fun e=>x2 (h x ⟨x1,e⟩).2⟩⟩
 have:=(nodup_fil (p:=fun i=>decide (gd l' i≠0)) (List.nodup_range (n:=l.length))).length_le_of_subset sub
 have ki:i ∈ (List.range l.length).filter fun i=>decide (gd l i≠0):=List.mem_filter.2 ⟨List.mem_range.2 hi,decide_eq_true h0⟩
 rw [List.length_erase_of_mem ki] at this
 have:=List.length_pos_of_mem ki
 omega
theorem zr_set {l:List Int} {a x:Nat} (ha:a<l.length):zr (l.set a 0) x ↔ zr l x\/x=a:=by
 unfold zr
 rw [List.length_set,gd_set]
 by_cases e:a=x
 ·subst e
  rw [if_pos ⟨rfl,ha⟩]
  exact ⟨fun _=>.inr rfl,fun _=>⟨ha,rfl⟩⟩
 ·rw [if_neg fun g=>e g.1]
  exact ⟨fun h=>.inl h,fun h=>h.resolve_right (Ne.symm e)⟩
theorem gd_set_ne {l:List Int} {a x:Nat} {v:Int} (h:x≠a):gd (l.set a v) x=gd l x:=by rw [gd_set,if_neg fun g=>h g.1.symm]
end
def OverS (a:Int×List Int×api_Incidence×List Int×match_pairs) (Q:List Int×List Int->Prop):Prop:=
 ∃ j R C:Nat,a.1=(j:Int)/\j<R/\Inc a.2.2.1 R C/\a.2.1.length=R/\a.2.2.2.1.length=C/\a.2.2.2.2.row.length=R/\a.2.2.2.2.col.length=C/\Prs (El a.2.2.1) (fo a.2.2.2.2.row) (fo a.2.2.2.2.col)/\
  ∀ rows' cols',Ovr (El a.2.2.1) (fo a.2.2.2.2.col) j a.2.1 a.2.2.2.1 rows' cols'->zr rows' j->Q (rows',cols')
theorem over_run {j:Nat} {rows cols:List Int} {m:api_Incidence} {p:match_pairs} {Q:List Int×List Int->Prop} (hS:OverS (j,rows,m,cols,p) Q):(match_Parts_1.f (j:Int) rows m cols p).run Q:=by
 unfold match_Parts_1.f
 refine W.fix_run (fun a=>unr a.2.1) (S:=OverS) ?_ _ Q hS
 clear hS
 rintro rec ⟨x0,rows,m,cols,⟨row,col⟩⟩ Q hrec ⟨j,R,C,hx,hj,hI,hr,hc,hrl,hcl,hp,H⟩
 simp only at hx hI hr hc hrl hcl hp H hrec |-
 subst hx
 have hlen:=hI.len
 unfold match_Parts_1.b
 simp only [gi_gd,Int.toNat_natCast]
 refine W.req_i (by omega) (W.run_if (fun c=>H rows cols Ovr.refl ⟨by omega,c⟩) fun c=>W.req_i (by omega) (W.req_i (by omega) ?_))
 have hj0: ¬ zr rows j:=fun g=>c g.2
 refine W.loop_c (fun s:List Int×List Int×Int=>∃ t:Nat,s.2.2=t/\t<=(gd m.E j).length/\s.2.1.length=R/\s.1.length=C/\zr s.2.1 j/\(∀ i,zr rows i->zr s.2.1 i)/\(∀ k,zr cols k->zr s.1 k)/\(∀ i,¬ zr s.2.1 i->gd s.2.1 i=gd rows i)/\(∀ k,¬ zr s.1 k->gd s.1 k=gd cols k)/\
  (∀ i,i≠j->zr s.2.1 i->¬ zr rows i->∀ k,k ∈ El m i->zr s.1 k/\∀ i',fo col k=some i'->zr s.2.1 i')/\(∀ i,zr s.2.1 i->zr rows i\/Rfr (El m) (fo col) j i)/\(∀ k,zr s.1 k->zr cols k\/∃ i,Rfr (El m) (fo col) j i/\k ∈ El m i)/\
  ∀ t',t'<t->zr s.1 (gd (El m j) t')/\∀ i',fo col (gd (El m j) t')=some i'->zr s.2.1 i') (fun s=>(gd m.E j).length - s.2.2.toNat)
  ⟨0,rfl,Nat.zero_le _,by simpa using hr,hc,(zr_set (by omega)).2 (.inr rfl),fun i hi=>(zr_set (by omega)).2 (.inl hi),fun _ h=>h,fun i hi=>gd_set_ne fun e=>hi ((zr_set (by omega)).2 (.inr e)),fun _ _=>rfl,fun i hi h1 h2=>absurd (((zr_set (by omega)).1 h1).resolve_right hi) h2,fun i hi=>((zr_set (by omega)).1 hi).imp id fun (e:i=j)=>e ▸ Rfr.refl,fun _ h=>.inl h,fun t ht=>by omega⟩ ?_
 rintro ⟨cs,rs,_⟩ P ⟨t,rfl,ht,hrs,hcs,i1,i2,i3,i4,i5,i6,i7,i8,i9⟩ hgo hbrk hout
 simp only at hrs hcs i1 i2 i3 i4 i5 i6 i7 i8 i9 hgo hbrk |-
 unfold match_Parts_1.l1
 simp only [gi_gd]
 refine W.run_if (fun c1=>W.req_i (by omega) ?_) fun c1=>hbrk _ ?_
 ·obtain ⟨k,hk,hkC,hkE,hkt⟩:=hI.at_ (r:=j) (t:=t) (by omega)
  simp only [hk,gi_gd,Int.toNat_natCast]
  have kc:k<cs.length:=by omega
  have c3':∀ x,zr cs x->zr (cs.set k 0) x:=fun x hx=>(zr_set kc).2 (.inl hx)
  have ck:zr (cs.set k 0) k:=(zr_set kc).2 (.inr rfl)
  refine W.req_i (by omega) (W.req_i (by omega) (W.run_if (fun c2=>W.req_i (by omega) ?_) fun c2=>?_))
  ·obtain ⟨j2,hj2⟩:∃ j2:Nat,gd col k=(j2:Int):=⟨(gd col k).toNat,by omega⟩
   have hcj:fo col k=some j2:=by rw [fo_pos (by omega) (by omega),hj2,Int.toNat_natCast]
   have hrj:fo row j2=some k:=(hp.rc j2 k).2 hcj
   rw [hj2]
   have dj:Rfr (El m) (fo col) j j2:=Rfr.refl.step hkE hcj
   refine W.bd (hrec _ _ ?_ ⟨j2,R,C,rfl,by rw [<- hrl];exact (fo_some hrj).1,hI,hrs,by simpa using hcs,hrl,hcl,hp,fun rows' cols' hO hz=>?_⟩)
   ·simp only
    exact unr_lt (i:=j) (by omega) (by omega) (fun e=>c e) i1.2 i2
   ·simp only at hO
    refine hgo _ ⟨t+1,by simp,by omega,by rw [hO.rl];exact hrs,by rw [hO.cl];simpa using hcs,hO.rup _ i1,fun i hi=>hO.rup _ (i2 i hi),fun x hx=>hO.cup _ (c3' x (i3 x hx)),fun i hi=>?_,fun x hx=>?_,fun i hij h1 h2=>?_,fun i hi=>?_,fun x hx=>?_,fun t' ht'=>?_⟩ (by simp;omega)
    ·rw [hO.ron i hi,i4 i fun g=>hi (hO.rup i g)]
    ·have nk:x≠k:=fun e=>hx (hO.cup x (e ▸ ck))
     rw [hO.con x hx,gd_set_ne nk,i5 x fun g=>hx (hO.cup x (c3' x g))]
    ·by_cases e:zr rs i
     ·exact fun x hx=>⟨hO.cup x (c3' x (i6 i hij e h2 x hx).1),fun i' hi'=>hO.rup _ ((i6 i hij e h2 x hx).2 i' hi')⟩
     ·exact hO.clo i h1 e
    ·rcases hO.rso i hi with g | g
     ·exact i7 i g
     ·exact .inr (Rfr.head hkE hcj g)
    ·rcases hO.cso x hx with g | ⟨i,g1,g2⟩
     ·rcases (zr_set kc).1 g with g | g
      ·exact i8 x g
      ·exact .inr ⟨j,.refl,g ▸ hkE⟩
     ·exact .inr ⟨i,Rfr.head hkE hcj g1,g2⟩
    ·by_cases e:t'=t
     ·rw [e,hkt]
      refine ⟨hO.cup k ck,fun i' hi'=>?_⟩
      rw [hcj] at hi'
      rw [<- Option.some.inj hi'];exact hz
     ·obtain ⟨g1,g2⟩:=i9 t' (by omega)
      exact ⟨hO.cup _ (c3' _ g1),fun i' hi'=>hO.rup _ (g2 i' hi')⟩
  ·have hcn:fo col k=none:=fo_neg (by omega) (by omega)
   refine hgo _ ⟨t+1,by simp,by omega,hrs,by simpa using hcs,i1,i2,fun x hx=>c3' x (i3 x hx),i4,fun x hx=>?_,fun i hij h1 h2 x hx=>⟨c3' x (i6 i hij h1 h2 x hx).1,(i6 i hij h1 h2 x hx).2⟩,i7,fun x hx=>?_,fun t' ht'=>?_⟩ (by simp;omega)
   ·have nk:x≠k:=fun e=>hx (e ▸ ck)
    rw [gd_set_ne nk,i5 x fun g=>hx (c3' x g)]
   ·rcases (zr_set kc).1 hx with g | g
    ·exact i8 x g
    ·exact .inr ⟨j,.refl,g ▸ hkE⟩
   ·by_cases e:t'=t
    ·rw [e,hkt]
     exact ⟨ck,fun i' hi'=>by rw [hcn] at hi';cases hi'⟩
    ·obtain ⟨g1,g2⟩:=i9 t' (by omega)
     exact ⟨c3' _ g1,g2⟩
 ·obtain rfl:t=(gd m.E j).length:=by omega
  unfold match_Parts_1.j1
  refine H rs cs ⟨by rw [hrs,hr],by rw [hcs,hc],i2,i3,i4,i5,fun i h1 h2=>?_,i7,i8⟩ i1
  by_cases e:i=j
  ·intro k hk
   rw [e] at hk
   obtain ⟨t,ht,rfl⟩:=List.mem_iff_getElem.1 hk
   have:=i9 t (by rw [<- El.len];exact ht)
   rwa [gd_lt ht] at this
  ·exact i6 i e h1 h2
end Go.Proofs.Ytbjnmmgnonldnaa.E
namespace Go.Proofs.Ytbjnmmgnonldnaa.E
open Go Go.RowKit
def Zr (E:Nat->List Nat) (R:Nat) (row col:Nat->Option Nat) (i:Nat):Prop:=∃ j,j<R/\row j=none/\Rfr E col j i
def Zc (E:Nat->List Nat) (R:Nat) (row col:Nat->Option Nat) (k:Nat):Prop:=∃ i,Zr E R row col i/\k ∈ E i
section
variable {E:Nat->List Nat} {R:Nat} {row col:Nat->Option Nat} {i k:Nat}
theorem Zr.step {i':Nat} (h:Zr E R row col i) (hk:k ∈ E i) (hc:col k=some i'):Zr E R row col i':=by
 obtain ⟨j,h1,h2,h3⟩:=h
 exact ⟨j,h1,h2,h3.step hk hc⟩
theorem Mch.zr_cls (h:Mch E R row col):∃ Rs S,Cls E col Rs S/\∀ i,Zr E R row col i->Rs i:=by
 obtain ⟨Rs,S,hc,hR,hu⟩:=h.cls
 refine ⟨Rs,S,hc,fun i hi=>?_⟩
 obtain ⟨j,h1,h2,h3⟩:=hi
 induction h3 with
 | refl=>exact hu j h1 h2
 | step _ a b ih=>
  obtain ⟨r,g1,g2⟩:=hc.own _ (hc.nb _ _ ih a)
  rw [b] at g2
  exact Option.some.inj g2 ▸ g1
theorem Mch.zc (h:Mch E R row col) (hk:Zc E R row col k):∃ i,col k=some i/\Zr E R row col i:=by
 obtain ⟨Rs,S,hc,hz⟩:=h.zr_cls
 obtain ⟨i,h1,h2⟩:=hk
 obtain ⟨r,g1,g2⟩:=hc.own k (hc.nb i k (hz i h1) h2)
 exact ⟨r,g2,h1.step h2 g2⟩
theorem Mch.lt (h:Mch E R row col) {r:Nat} (hr:row r=some k):r<R:=by
 rcases Nat.lt_or_ge r R with c | c
 ·exact c
 ·rw [h.hi r c] at hr;cases hr
theorem Mch.zlt (h:Mch E R row col) (hi:Zr E R row col i):i<R:=by
 obtain ⟨j,h1,h2,h3⟩:=hi
 cases h3 with
 | refl=>exact h1
 | step _ a b=>exact h.lt ((h.prs.rc _ _).2 b)
def Saf (E:Nat->List Nat) (R:Nat) (row col:Nat->Option Nat) (i:Nat):Prop:=¬ Zr E R row col i/\row i≠none
theorem Mch.saf (h:Mch E R row col) (hk: ¬ Zc E R row col k) (hi:i<R) (he:k ∈ E i):Saf E R row col i:=
 ⟨fun g=>hk ⟨i,g,he⟩,fun g=>hk ⟨i,⟨i,hi,g,.refl⟩,he⟩⟩
theorem Mch.safc (h:Mch E R row col) (hi:Saf E R row col i) (hr:row i=some k): ¬ Zc E R row col k:=fun g=>by
 obtain ⟨i',g1,g2⟩:=h.zc g
 rw [(h.prs.rc i k).1 hr] at g1
 exact hi.1 (Option.some.inj g1 ▸ g2)
theorem Mch.free (h:Mch E R row col) (hk:col k=none): ¬ Zc E R row col k:=fun g=>by
 obtain ⟨i',g1,_⟩:=h.zc g
 rw [hk] at g1;cases g1
end
theorem index_run {l:List Int} {x:Int} {Q:Int->Prop} (H1:∀ i:Nat,i<l.length->gd l i=x->(∀ j,j<i->gd l j≠x)->Q i) (H0:(∀ j,j<l.length->gd l j≠x)->Q (-1)):(slices_Index_int.f l x).run Q:=by
 unfold slices_Index_int.f
 refine W.loop_c (fun p=>∃ i:Nat,p=i/\i<=l.length/\∀ j,j<i->gd l j≠x) (fun p=>l.length - p.toNat) ⟨0,rfl,Nat.zero_le _,fun j hj=>by omega⟩ ?_
 rintro _ P ⟨i,rfl,hi,hr⟩ hgo hbrk hout
 unfold slices_Index_int.l1
 simp only [gi_gd]
 refine W.run_if (fun c=>W.req_i (by omega) (W.run_if (fun c2=>hout _ (H1 i (by omega) (by first | exact c2 | exact c2.symm) hr)) fun c2=>hgo _ ⟨i+1,by simp,by omega,fun j hj=>?_⟩ (by simp;omega))) fun c=>hbrk _ ?_
 ·by_cases e:j=i
  ·rw [e];first | exact c2 | exact fun g=>c2 g.symm
  ·exact hr j (by omega)
 ·obtain rfl:i=l.length:=by omega
  unfold slices_Index_int.j1
  exact H0 hr
theorem contains_run {l:List Int} {x:Int} {Q:Bool->Prop} (H:Q (decide (x ∈ l))):(slices_Contains_int.f l x).run Q:=by
 unfold slices_Contains_int.f
 refine W.bd (index_run (fun i h1 h2 h3=>?_) fun h=>?_)
 ·show Q _
  have:x ∈ l:=h2 ▸ gd_mem h1
  rw [decide_eq_true this] at H
  rw [decide_eq_true (by omega)]
  exact H
 ·show Q _
  have:x ∉ l:=fun g=>by
   obtain ⟨j,hj,e⟩:=List.mem_iff_getElem.1 g
   exact h j hj (by rw [gd_lt hj];exact e)
  rw [decide_eq_false this] at H
  rw [decide_eq_false (by omega)]
  exact H
theorem El.mem {m:api_Incidence} {R C:Nat} (hI:Inc m R C) {i k:Nat} :((k:Int) ∈ gd m.E i) ↔ k ∈ El m i:=by
 unfold El
 rw [List.mem_map]
 constructor
 ·intro h;exact ⟨_,h,by simp⟩
 ·rintro ⟨z,hz,rfl⟩
  have:=hI.lt i z hz
  rwa [show ((z.toNat:Nat):Int)=z by omega]
def Safs (m:api_Incidence) (R:Nat) (p:match_pairs) (b:A2_u64):Prop:=∀ i,i<128->bts b i=true->i<R/\Saf (El m) R (fo p.row) (fo p.col) i
def UndS (a:Int×A2_u64×api_Incidence×A2_u64×match_pairs) (Q:A2_u64×A2_u64->Prop):Prop:=
 ∃ k R C:Nat,a.1=(k:Int)/\k<C/\Inc a.2.2.1 R C/\Bok a.2.1/\Bok a.2.2.2.1/\a.2.2.2.2.row.length=R/\a.2.2.2.2.col.length=C/\Mch (El a.2.2.1) R (fo a.2.2.2.2.row) (fo a.2.2.2.2.col)/\¬ Zc (El a.2.2.1) R (fo a.2.2.2.2.row) (fo a.2.2.2.2.col) k/\Safs a.2.2.1 R a.2.2.2.2 a.2.2.2.1/\
  ∀ cs rs,Bok cs->Bok rs->Safs a.2.2.1 R a.2.2.2.2 rs->(∀ x,x<128->bts a.2.1 x=true->bts cs x=true)->Q (cs,rs)
theorem und_run {k:Nat} {cols rows:A2_u64} {m:api_Incidence} {p:match_pairs} {Q:A2_u64×A2_u64->Prop} (hS:UndS (k,cols,m,rows,p) Q):(match_reachedRows_1.f (k:Int) cols m rows p).run Q:=by
 unfold match_reachedRows_1.f
 refine W.fix_run (fun a=>unseen a.2.1) (S:=UndS) ?_ _ Q hS
 clear hS
 rintro rec ⟨x0,cols,m,rows,p⟩ Q hrec ⟨k,R,C,hx,hk,hI,hbc,hbr,hrl,hcl,hM,hz,hs,H⟩
 simp only at hx hI hbc hbr hrl hcl hM hz hs H hrec |-
 subst hx
 have hlen:=hI.len
 have r64:=hI.r64
 have c64:=hI.c64
 unfold match_reachedRows_1.b
 refine W.bd (match_bits_has_run hbc (by omega) (W.run_if (fun _=>H cols rows hbc hbr hs fun _ _ h=>h) fun c=>W.bd (match_bits_with_run hbc (by omega) fun cs0 hc0 he0=>?_)))
 have c:bts cols k=false:=by simpa using c
 have up0:∀ x,x<128->bts cols x=true->bts cs0 x=true:=fun x hx h=>by rw [he0 x hx,h];rfl
 have k0:bts cs0 k=true:=by rw [he0 k (by omega)];simp
 refine W.loop_c (fun s:A2_u64×A2_u64×Int=>∃ i:Nat,s.2.2=i/\i<=m.E.length/\Bok s.1/\Bok s.2.1/\Safs m R p s.1/\∀ x,x<128->bts cs0 x=true->bts s.2.1 x=true) (fun s=>m.E.length - s.2.2.toNat) ⟨0,rfl,Nat.zero_le _,hbr,hc0,hs,fun _ _ h=>h⟩ ?_
 rintro ⟨rs,cs,_⟩ P ⟨i,rfl,hi,g1,g2,g3,g4⟩ hgo hbrk hout
 simp only at g1 g2 g3 g4 hgo hbrk |-
 unfold match_reachedRows_1.l1
 simp only [gi_gd]
 refine W.run_if (fun c1=>W.req_i (by omega) (W.bd (match_bits_has_run g1 (by omega) (W.run_if (fun _=>hgo _ ⟨i+1,by simp,by omega,g1,g2,g3,g4⟩ (by simp;omega)) fun c2=>W.bd (contains_run (W.run_if (fun c3=>?_) fun c3=>hgo _ ⟨i+1,by simp,by omega,g1,g2,g3,g4⟩ (by simp;omega))))))) fun c1=>hbrk _ ?_
 ·have hke:k ∈ El m i:=(El.mem hI).1 (by simpa using c3)
  have hsf:=hM.saf hz (show i<R by omega) hke
  refine W.bd (match_bits_with_run g1 (by omega) fun rs1 hr1 he1=>W.req_i (by omega) ?_)
  have hs1:Safs m R p rs1:=fun x hx hb=>by
   rw [he1 x hx] at hb
   by_cases e:x=i
   ·exact ⟨by omega,e ▸ hsf⟩
   ·rw [decide_eq_false e,Bool.or_false] at hb;exact g3 x hx hb
  obtain ⟨k2,hk2⟩:∃ k2,fo p.row i=some k2:=by
   cases h:fo p.row i with
   | none=>exact absurd h hsf.2
   | some k2=>exact ⟨k2,rfl⟩
  have e2:=(fo_some hk2).2
  rw [e2]
  have hk2C:k2<C:=by
   have:=(hM.prs.rc i k2).1 hk2
   rw [<- hcl];exact (fo_some this).1
  refine W.run_if (fun _=>W.req_i (by omega) (W.bd (hrec _ _ ?_ ⟨k2,R,C,rfl,hk2C,hI,g2,hr1,hrl,hcl,hM,hM.safc hsf hk2,hs1,fun cs' rs' a1 a2 a3 a4=>?_⟩))) fun c4=>absurd (by omega) c4
  ·exact unseen_lt (k:=k) (by omega) c (g4 k (by omega) k0) fun x hx h=>g4 x hx (up0 x hx h)
  ·exact hgo _ ⟨i+1,by simp,by omega,a2,a1,a3,fun x hx h=>a4 x hx (g4 x hx h)⟩ (by simp;omega)
 ·unfold match_reachedRows_1.j1
  exact H cs rs g2 g1 g3 fun x hx h=>g4 x hx (up0 x hx h)
theorem reached_run {m:api_Incidence} {R C:Nat} {p:match_pairs} {Q:A2_u64->Prop} (hI:Inc m R C) (hrl:p.row.length=R) (hcl:p.col.length=C) (hM:Mch (El m) R (fo p.row) (fo p.col)) (H:∀ rs,Bok rs->Safs m R p rs->Q rs):(match_reachedRows.f m p).run Q:=by
 have c64:=hI.c64
 have zs:Safs m R p ⟨0,0⟩:=fun i _ h=>by rw [bts_zero] at h;cases h
 unfold match_reachedRows.f
 refine W.loop_c (fun s:A2_u64×Int=>∃ i:Nat,s.2=i/\i<=C/\Bok s.1) (fun s=>C - s.2.toNat) ⟨0,rfl,Nat.zero_le _,Bok.zero⟩ ?_
 rintro ⟨f,_⟩ P ⟨i,rfl,hi,hf⟩ hgo hbrk hout
 simp only at hf hgo hbrk |-
 unfold match_reachedRows.l2
 simp only [gi_gd]
 rw [hI.cols]
 refine W.run_if (fun c=>W.req_i (by omega) (W.run_if (fun c2=>W.bd (match_bits_with_run hf (by omega) fun b hb _=>hgo _ ⟨i+1,by simp,by omega,hb⟩ (by simp;omega))) fun c2=>hgo _ ⟨i+1,by simp,by omega,hf⟩ (by simp;omega))) fun c=>hbrk _ ?_
 clear hgo hbrk hout
 unfold match_reachedRows.j1
 refine W.run_if (fun _=>H _ Bok.zero zs) fun _=>?_
 refine W.loop_c (fun s:A2_u64×A2_u64×Int=>∃ i:Nat,s.2.2=i/\i<=C/\Bok s.1/\Bok s.2.1/\Safs m R p s.1) (fun s=>C - s.2.2.toNat) ⟨0,rfl,Nat.zero_le _,Bok.zero,Bok.zero,zs⟩ ?_
 rintro ⟨rs,cs,_⟩ P ⟨i,rfl,hi,g1,g2,g3⟩ hgo hbrk hout
 simp only at g1 g2 g3 hgo hbrk |-
 unfold match_reachedRows.l1
 simp only [gi_gd]
 rw [hI.cols]
 refine W.run_if (fun c=>W.req_i (by omega) (W.run_if (fun c2=>W.bd (und_run ⟨i,R,C,rfl,by omega,hI,g2,g1,hrl,hcl,hM,hM.free (fo_neg (by omega) c2),g3,fun cs' rs' a1 a2 a3 _=>hgo _ ⟨i+1,by simp,by omega,a2,a1,a3⟩ (by simp;omega)⟩)) fun c2=>hgo _ ⟨i+1,by simp,by omega,g1,g2,g3⟩ (by simp;omega))) fun c=>hbrk _ ?_
 unfold match_reachedRows.j2
 exact H rs g1 g3
end Go.Proofs.Ytbjnmmgnonldnaa.E
namespace Go.Proofs.Ytbjnmmgnonldnaa.E
open Go Go.RowKit
def Asc (l:List Int) (n:Int):Prop:=∀ t,t<l.length->0<=gd l t/\gd l t<n/\(0<t->gd l (t - 1)<gd l t)
structure IncOk (m:api_Incidence):Prop where
 r0:0<=m.Rows
 r1:m.Rows<=64
 c0:0<=m.Cols
 c1:m.Cols<=64
 len:(m.E.length:Int)=m.Rows
 asc:∀ r,r<m.E.length->Asc (gd m.E r) m.Cols
theorem IncOk.inc {m:api_Incidence} (h:IncOk m):Inc m m.Rows.toNat m.Cols.toNat:=by
 obtain ⟨a,b,c,d,e,f⟩:=h
 refine ⟨by omega,by omega,by omega,by omega,by omega,fun r k hk=>?_⟩
 rcases Nat.lt_or_ge r m.E.length with g | g
 ·obtain ⟨t,ht,rfl⟩:=List.mem_iff_getElem.1 hk
  have:=f r g t ht
  rw [gd_lt ht] at this
  omega
 ·have:gd m.E r= []:=by
   unfold gd
   rw [List.getD_eq_getElem?_getD,List.getElem?_eq_none g]
   rfl
  rw [this] at hk
  cases hk
theorem match_Validate_run {m:api_Incidence} {Q:Int->Prop} (H0:IncOk m->Q 0) (H1: ¬ IncOk m->Q 1):(match_Validate.f m).run Q:=by
 unfold match_Validate.f
 refine W.run_if (fun c=>H1 fun h=>by have:=h.r0;omega) fun a1=>W.run_if (fun c=>H1 fun h=>by have:=h.r1;omega) fun a2=>W.run_if (fun c=>H1 fun h=>by have:=h.c0;omega) fun a3=>W.run_if (fun c=>H1 fun h=>by have:=h.c1;omega) fun a4=>W.run_if (fun c=>H1 fun h=>c h.len) fun a5=>?_
 refine W.loop_c (fun p=>∃ i:Nat,p=i/\i<=m.E.length/\∀ r,r<i->Asc (gd m.E r) m.Cols) (fun p=>m.E.length - p.toNat) ⟨0,rfl,Nat.zero_le _,fun r hr=>by omega⟩ ?_
 rintro _ P ⟨i,rfl,hi,hr⟩ hgo hbrk hout
 unfold match_Validate.l1
 refine W.run_if (fun c=>W.req_i (by omega) ?_) fun c=>hbrk _ ?_
 ·have bad: ¬ Asc (gd m.E i) m.Cols->P (.out 1):=fun h=>hout _ (H1 fun g=>h (g.asc i (by omega)))
  refine W.loop_c (fun p=>∃ t:Nat,p=t/\t<=(gd m.E i).length/\∀ s,s<t->0<=gd (gd m.E i) s/\gd (gd m.E i) s<m.Cols/\(0<s->gd (gd m.E i) (s - 1)<gd (gd m.E i) s)) (fun p=>(gd m.E i).length - p.toNat) ⟨0,rfl,Nat.zero_le _,fun s hs=>by omega⟩ ?_
  rintro _ P2 ⟨t,rfl,ht,hs⟩ hgo2 hbrk2 hout2
  unfold match_Validate.l2
  simp only [gi_gd]
  have bad2:t<(gd m.E i).length->¬ (0<=gd (gd m.E i) t/\gd (gd m.E i) t<m.Cols/\(0<t->gd (gd m.E i) (t - 1)<gd (gd m.E i) t))->P2 (.out 1):=fun h1 h2=>hout2 _ (bad fun g=>h2 (g t h1))
  have good:(0<=gd (gd m.E i) t/\gd (gd m.E i) t<m.Cols/\(0<t->gd (gd m.E i) (t - 1)<gd (gd m.E i) t))->t<(gd m.E i).length->P2 (.go ((t:Int)+1)):=fun h1 h2=>hgo2 _ ⟨t+1,by simp,by omega,fun s hs'=>by
   by_cases e:s=t
   ·rw [e];exact h1
   ·exact hs s (by omega)⟩ (by simp;omega)
  refine W.run_if (fun c2=>W.req_i (by omega) (W.run_if (fun c3=>bad2 (by omega) fun g=>by omega) fun c3=>W.run_if (fun c4=>bad2 (by omega) fun g=>by omega) fun c4=>W.run_if (fun c5=>W.req_i (by omega) ?_) fun c5=>good ⟨by omega,by omega,fun g=>by omega⟩ (by omega))) fun c2=>hbrk2 _ ?_
  ·rw [gi_gdi (show (t:Int) - 1=((t - 1:Nat):Int) by omega)]
   refine W.run_if (fun c6=>bad2 (by omega) fun g=>by have:=g.2.2 (by omega);omega) fun c6=>good ⟨by omega,by omega,fun _=>by omega⟩ (by omega)
  ·unfold match_Validate.j2
   refine hgo _ ⟨i+1,by simp,by omega,fun r hr'=>?_⟩ (by simp;omega)
   by_cases e:r=i
   ·rw [e];exact fun s hs'=>hs s (by omega)
   ·exact hr r (by omega)
 ·unfold match_Validate.j1
  exact H0 ⟨by omega,by omega,by omega,by omega,by omega,fun r hr'=>hr r (by omega)⟩
theorem ref14_Validate_run {m:api_Incidence} {Q:Int->Prop} (H0:IncOk m->Q 0) (H1: ¬ IncOk m->Q 1):(ref14_Validate.f m).run Q:=by
 unfold ref14_Validate.f
 refine W.run_if (fun c=>H1 fun h=>by have:=h.r0;omega) fun a1=>W.run_if (fun c=>H1 fun h=>by have:=h.r1;omega) fun a2=>W.run_if (fun c=>H1 fun h=>by have:=h.c0;omega) fun a3=>W.run_if (fun c=>H1 fun h=>by have:=h.c1;omega) fun a4=>W.run_if (fun c=>H1 fun h=>c h.len) fun a5=>?_
 refine W.loop_c (fun p=>∃ i:Nat,p=i/\i<=m.E.length/\∀ r,r<i->Asc (gd m.E r) m.Cols) (fun p=>m.E.length - p.toNat) ⟨0,rfl,Nat.zero_le _,fun r hr=>by omega⟩ ?_
 rintro _ P ⟨i,rfl,hi,hr⟩ hgo hbrk hout
 unfold ref14_Validate.l1
 refine W.run_if (fun c=>?_) fun c=>hbrk _ ?_
 ·have bad: ¬ Asc (gd m.E i) m.Cols->P (.out 1):=fun h=>hout _ (H1 fun g=>h (g.asc i (by omega)))
  refine W.loop_c (fun p=>∃ t:Nat,p=t/\t<=(gd m.E i).length/\∀ s,s<t->0<=gd (gd m.E i) s/\gd (gd m.E i) s<m.Cols/\(0<s->gd (gd m.E i) (s - 1)<gd (gd m.E i) s)) (fun p=>(gd m.E i).length - p.toNat) ⟨0,rfl,Nat.zero_le _,fun s hs=>by omega⟩ ?_
  rintro _ P2 ⟨t,rfl,ht,hs⟩ hgo2 hbrk2 hout2
  unfold ref14_Validate.l2 ref14_Validate.j3
  simp only [gi_gd]
  have bad2:t<(gd m.E i).length->¬ (0<=gd (gd m.E i) t/\gd (gd m.E i) t<m.Cols/\(0<t->gd (gd m.E i) (t - 1)<gd (gd m.E i) t))->P2 (.out 1):=fun h1 h2=>hout2 _ (bad fun g=>h2 (g t h1))
  have good:(0<=gd (gd m.E i) t/\gd (gd m.E i) t<m.Cols/\(0<t->gd (gd m.E i) (t - 1)<gd (gd m.E i) t))->t<(gd m.E i).length->P2 (.go ((t:Int)+1)):=fun h1 h2=>hgo2 _ ⟨t+1,by simp,by omega,fun s hs'=>by
   by_cases e:s=t
   ·rw [e];exact h1
   ·exact hs s (by omega)⟩ (by simp;omega)
  refine W.req_i (by omega) (W.run_if (fun c2=>W.req_i (by omega) (W.req_i (by omega) (W.run_if (fun c3=>bad2 (by omega) fun g=>by omega) fun c3=>W.req_i (by omega) (W.req_i (by omega) (W.run_if (fun c4=>bad2 (by omega) fun g=>by omega) fun c4=>W.run_if (fun c5=>W.req_i (by omega) (W.req_i (by omega) (W.req_i (by omega) (W.req_i (by omega) ?_)))) fun c5=>good ⟨by omega,by omega,fun g=>by omega⟩ (by omega)))))) fun c2=>hbrk2 _ ?_)
  ·rw [gi_gdi (show (t:Int) - 1=((t - 1:Nat):Int) by omega)]
   refine W.run_if (fun c6=>bad2 (by omega) fun g=>by have:=g.2.2 (by omega);omega) fun c6=>good ⟨by omega,by omega,fun _=>by omega⟩ (by omega)
  ·unfold ref14_Validate.j2
   refine hgo _ ⟨i+1,by simp,by omega,fun r hr'=>?_⟩ (by simp;omega)
   by_cases e:r=i
   ·rw [e];exact fun s hs'=>hs s (by omega)
   ·exact hr r (by omega)
 ·unfold ref14_Validate.j1
  exact H0 ⟨by omega,by omega,by omega,by omega,by omega,fun r hr'=>hr r (by omega)⟩
theorem fault_isSet_run {l:List Int} {n:Int} {Q:Bool->Prop} (H0:Asc l n->Q true) (H1: ¬ Asc l n->Q false):(fault_isSet.f l n).run Q:=by
 unfold fault_isSet.f
 refine W.loop_c (fun p=>∃ t:Nat,p=t/\t<=l.length/\∀ s,s<t->0<=gd l s/\gd l s<n/\(0<s->gd l (s - 1)<gd l s)) (fun p=>l.length - p.toNat) ⟨0,rfl,Nat.zero_le _,fun s hs=>by omega⟩ ?_
 rintro _ P2 ⟨t,rfl,ht,hs⟩ hgo2 hbrk2 hout2
 unfold fault_isSet.l1
 simp only [gi_gd]
 have bad2:t<l.length->¬ (0<=gd l t/\gd l t<n/\(0<t->gd l (t - 1)<gd l t))->P2 (.out false):=fun h1 h2=>hout2 _ (H1 fun g=>h2 (g t h1))
 have good:(0<=gd l t/\gd l t<n/\(0<t->gd l (t - 1)<gd l t))->t<l.length->P2 (.go ((t:Int)+1)):=fun h1 h2=>hgo2 _ ⟨t+1,by simp,by omega,fun s hs'=>by
  by_cases e:s=t
  ·rw [e];exact h1
  ·exact hs s (by omega)⟩ (by simp;omega)
 refine W.run_if (fun c2=>W.req_i (by omega) (W.run_if (fun c3=>bad2 (by omega) fun g=>by omega) fun c3=>W.run_if (fun c4=>bad2 (by omega) fun g=>by omega) fun c4=>W.run_if (fun c5=>W.req_i (by omega) ?_) fun c5=>good ⟨by omega,by omega,fun g=>by omega⟩ (by omega))) fun c2=>hbrk2 _ ?_
 ·rw [gi_gdi (show (t:Int) - 1=((t - 1:Nat):Int) by omega)]
  refine W.run_if (fun c6=>bad2 (by omega) fun g=>by have:=g.2.2 (by omega);omega) fun c6=>good ⟨by omega,by omega,fun _=>by omega⟩ (by omega)
 ·unfold fault_isSet.j1
  exact H0 fun s hs'=>hs s (by omega)
theorem ref28_isSet_run {l:List Int} {n:Int} {Q:Bool->Prop} (H0:Asc l n->Q true) (H1: ¬ Asc l n->Q false):(ref28_isSet.f l n).run Q:=by
 unfold ref28_isSet.f
 refine W.loop_c (fun p=>∃ t:Nat,p=t/\t<=l.length/\∀ s,s<t->0<=gd l s/\gd l s<n/\(0<s->gd l (s - 1)<gd l s)) (fun p=>l.length - p.toNat) ⟨0,rfl,Nat.zero_le _,fun s hs=>by omega⟩ ?_
 rintro _ P2 ⟨t,rfl,ht,hs⟩ hgo2 hbrk2 hout2
 unfold ref28_isSet.l1 ref28_isSet.j2
 simp only [gi_gd]
 have bad2:t<l.length->¬ (0<=gd l t/\gd l t<n/\(0<t->gd l (t - 1)<gd l t))->P2 (.out false):=fun h1 h2=>hout2 _ (H1 fun g=>h2 (g t h1))
 have good:(0<=gd l t/\gd l t<n/\(0<t->gd l (t - 1)<gd l t))->t<l.length->P2 (.go ((t:Int)+1)):=fun h1 h2=>hgo2 _ ⟨t+1,by simp,by omega,fun s hs'=>by
  by_cases e:s=t
  ·rw [e];exact h1
  ·exact hs s (by omega)⟩ (by simp;omega)
 refine W.run_if (fun c2=>W.req_i (by omega) (W.run_if (fun c3=>bad2 (by omega) fun g=>by omega) fun c3=>W.req_i (by omega) (W.run_if (fun c4=>bad2 (by omega) fun g=>by omega) fun c4=>W.run_if (fun c5=>W.req_i (by omega) (W.req_i (by omega) ?_)) fun c5=>good ⟨by omega,by omega,fun g=>by omega⟩ (by omega)))) fun c2=>hbrk2 _ ?_
 ·rw [gi_gdi (show (t:Int) - 1=((t - 1:Nat):Int) by omega)]
  refine W.run_if (fun c6=>bad2 (by omega) fun g=>by have:=g.2.2 (by omega);omega) fun c6=>good ⟨by omega,by omega,fun _=>by omega⟩ (by omega)
 ·unfold ref28_isSet.j1
  exact H0 fun s hs'=>hs s (by omega)
structure DiagOk (d:api_Diag):Prop where
 m:IncOk d.M
 r:d.M.Rows<=10
 f:d.Faults.length<=8
 s:∀ i,i<d.Faults.length->gd d.Faults i≠[]/\Asc (gd d.Faults i) d.M.Rows
def DiagR (d:api_Diag) (e:Int):Prop:=e=0/\DiagOk d\/e=1/\¬ IncOk d.M\/e=3/\IncOk d.M/\(10<d.M.Rows\/8<d.Faults.length)\/e=1/\IncOk d.M/\d.M.Rows<=10/\d.Faults.length<=8/\¬ DiagOk d
theorem DiagR.uniq {d:api_Diag} {e e':Int} (h:DiagR d e) (h':DiagR d e'):e=e':=by
 rcases h with ⟨a,b⟩ | ⟨a,b⟩ | ⟨a,b,c⟩ | ⟨a,b,c,f,g⟩ <;> rcases h' with ⟨a',b'⟩ | ⟨a',b'⟩ | ⟨a',b',c'⟩ | ⟨a',b',c',f',g'⟩ <;> first | omega | exact absurd b.m b' | exact absurd b'.m b | (have:=b.r;have:=b.f;omega) | (have:=b'.r;have:=b'.f;omega) | exact absurd b g' | exact absurd b' g | exact absurd b' b | exact absurd b b'
theorem fault_Validate_run {d:api_Diag} {Q:Int->Prop} (H:∀ e,DiagR d e->Q e):(fault_Validate.f d).run Q:=by
 unfold fault_Validate.f
 refine W.bd (match_Validate_run (fun h=>W.run_if (fun c=>absurd rfl c) fun _=>W.run_if (fun c=>H _ (.inr (.inr (.inl ⟨rfl,h,.inl (by omega)⟩)))) fun c1=>W.run_if (fun c=>H _ (.inr (.inr (.inl ⟨rfl,h,.inr (by omega)⟩)))) fun c2=>?_) fun h=>W.run_if (fun _=>H _ (.inr (.inl ⟨rfl,h⟩))) fun c=>absurd (by decide) c)
 have bad: ¬ DiagOk d->Q 1:=fun g=>H _ (.inr (.inr (.inr ⟨rfl,h,by omega,by omega,g⟩)))
 refine W.loop_c (fun p=>∃ i:Nat,p=i/\i<=d.Faults.length/\∀ r,r<i->gd d.Faults r≠[]/\Asc (gd d.Faults r) d.M.Rows) (fun p=>d.Faults.length - p.toNat) ⟨0,rfl,Nat.zero_le _,fun r hr=>by omega⟩ ?_
 rintro _ P ⟨i,rfl,hi,hr⟩ hgo hbrk hout
 unfold fault_Validate.l1
 simp only [gi_gd]
 refine W.run_if (fun c=>W.req_i (by omega) (W.run_if (fun c3=>hout _ (bad fun g=>(g.s i (by omega)).1 (List.length_eq_zero_iff.1 (by omega)))) fun c3=>W.bd (fault_isSet_run (fun g=>W.run_if (fun _=>hgo _ ⟨i+1,by simp,by omega,fun r hr'=>?_⟩ (by simp;omega)) fun c=>absurd rfl c) fun g=>W.run_if (fun c=>by cases c) fun _=>hout _ (bad fun g'=>g (g'.s i (by omega)).2)))) fun c=>hbrk _ ?_
 ·by_cases e:r=i
  ·rw [e];exact ⟨fun z=>c3 (by rw [z];rfl),g⟩
  ·exact hr r (by omega)
 ·unfold fault_Validate.j1
  exact H _ (.inl ⟨rfl,h,by omega,by omega,fun r hr'=>hr r (by omega)⟩)
theorem ref28_Validate_run {d:api_Diag} {Q:Int->Prop} (H:∀ e,DiagR d e->Q e):(ref28_Validate.f d).run Q:=by
 unfold ref28_Validate.f
 refine W.bd (ref14_Validate_run (fun h=>W.run_if (fun c=>absurd rfl c) fun _=>W.run_if (fun c=>H _ (.inr (.inr (.inl ⟨rfl,h,.inl (by omega)⟩)))) fun c1=>W.run_if (fun c=>H _ (.inr (.inr (.inl ⟨rfl,h,.inr (by omega)⟩)))) fun c2=>?_) fun h=>W.run_if (fun _=>H _ (.inr (.inl ⟨rfl,h⟩))) fun c=>absurd (by decide) c)
 have bad: ¬ DiagOk d->Q 1:=fun g=>H _ (.inr (.inr (.inr ⟨rfl,h,by omega,by omega,g⟩)))
 refine W.loop_c (fun p=>∃ i:Nat,p=i/\i<=d.Faults.length/\∀ r,r<i->gd d.Faults r≠[]/\Asc (gd d.Faults r) d.M.Rows) (fun p=>d.Faults.length - p.toNat) ⟨0,rfl,Nat.zero_le _,fun r hr=>by omega⟩ ?_
 rintro _ P ⟨i,rfl,hi,hr⟩ hgo hbrk hout
 unfold ref28_Validate.l1
 simp only [gi_gd]
 refine W.run_if (fun c=>W.req_i (by omega) (W.run_if (fun c3=>hout _ (bad fun g=>(g.s i (by omega)).1 (List.length_eq_zero_iff.1 (by omega)))) fun c3=>W.req_i (by omega) (W.bd (ref28_isSet_run (fun g=>W.run_if (fun _=>hgo _ ⟨i+1,by simp,by omega,fun r hr'=>?_⟩ (by simp;omega)) fun c=>absurd rfl c) fun g=>W.run_if (fun c=>by cases c) fun _=>hout _ (bad fun g'=>g (g'.s i (by omega)).2))))) fun c=>hbrk _ ?_
 ·by_cases e:r=i
  ·rw [e];exact ⟨fun z=>c3 (by rw [z];rfl),g⟩
  ·exact hr r (by omega)
 ·unfold ref28_Validate.j1
  exact H _ (.inl ⟨rfl,h,by omega,by omega,fun r hr'=>hr r (by omega)⟩)
end Go.Proofs.Ytbjnmmgnonldnaa.E
namespace Go.Proofs.Ytbjnmmgnonldnaa.E
open Go Go.RowKit
structure PartsR (m:api_Incidence) (R C:Nat) (row col:Nat->Option Nat) (rows cols:List Int):Prop where
 rl:rows.length=R
 cl:cols.length=C
 mch:Mch (El m) R row col
 rz:∀ i,i<R->(gd rows i=0 ↔ Zr (El m) R row col i)
 cz:∀ k,k<C->(gd cols k=0 ↔ Zc (El m) R row col k)
theorem ones_run {A β:Type} {n:Nat} {x:Int} {body:List Int->Int->W (Ctl (List Int×Int) A)} {D:List Int×Int->W β} {O:A->W β} {Q:β->Prop} {l0:List Int} (h0:l0.length=n)
  (hb:∀ l i,body l i=if i<(l0.length:Int) then W.req ((0:Int)<=i/\i<(l.length:Int)) (W.ret (.go (l.set i.toNat x,i+1))) else W.ret (.brk (l,i))) (H:∀ l i,l.length=n->(∀ k,k<n->gd l k=x)->(D (l,i)).run Q):(W.bind (W.loop (fun s:List Int×Int=>body s.1 s.2) (l0,0)) (Lp.on D O)).run Q:=by
 refine W.loop_c (fun s:List Int×Int=>∃ i:Nat,s.2=i/\i<=n/\s.1.length=n/\∀ k,k<i->gd s.1 k=x) (fun s=>n - s.2.toNat) ⟨0,rfl,Nat.zero_le _,h0,fun k hk=>by omega⟩ ?_
 rintro ⟨l,_⟩ P ⟨i,rfl,hi,hl,hg⟩ hgo hbrk hout
 simp only at hl hg hgo hbrk |-
 rw [hb]
 refine W.run_if (fun c=>W.req_i (by omega) (hgo _ ⟨i+1,by simp,by omega,by simpa using hl,fun k hk=>?_⟩ (by simp;omega))) fun c=>hbrk _ (H _ _ hl fun k hk=>hg k (by omega))
 show gd (l.set i x) k=x
 rw [gd_set]
 by_cases e:i=k
 ·rw [if_pos ⟨e,by omega⟩]
 ·rw [if_neg fun g=>e g.1];exact hg k (by omega)
theorem parts_run {m:api_Incidence} {Q:List Int×List Int×Int->Prop} (hv:IncOk m) (H:∀ row col rows cols,PartsR m m.Rows.toNat m.Cols.toNat row col rows cols->Q (rows,cols,0)):(match_Parts.f m).run Q:=by
 have hI:=hv.inc
 have r0:=hv.r0
 have r1:=hv.r1
 have c0:=hv.c0
 have c1:=hv.c1
 obtain ⟨R,hR⟩:∃ R:Nat,m.Rows=R:=⟨m.Rows.toNat,by omega⟩
 obtain ⟨C,hC⟩:∃ C:Nat,m.Cols=C:=⟨m.Cols.toNat,by omega⟩
 rw [hR,hC,Int.toNat_natCast,Int.toNat_natCast] at H hI
 unfold match_Parts.f
 refine W.bd (match_Validate_run (fun _=>W.run_if (fun c=>absurd rfl c) fun _=>W.bd (match_run hI fun p hrl hcl hM=>W.req_i (by omega) (W.req_i (by omega) ?_))) fun h=>absurd hv h)
 rw [hR,hC,Int.toNat_natCast,Int.toNat_natCast]
 unfold match_Parts.j1
 refine ones_run (n:=R) (x:=1) (body:=match_Parts.l5 (List.replicate R 0)) (by simp) (fun l i=>rfl) fun rs _ hrs hr1=>?_
 unfold match_Parts.j2
 refine ones_run (n:=C) (x:=1) (body:=match_Parts.l4 (List.replicate C 0)) (by simp) (fun l i=>rfl) fun cs _ hcs hc1'=>?_
 have nr:∀ i,¬ zr rs i:=fun i h=>by have:=hr1 i (by rw [<- hrs];exact h.1);have:=h.2;omega
 have nc:∀ i,¬ zr cs i:=fun i h=>by have:=hc1' i (by rw [<- hcs];exact h.1);have:=h.2;omega
 unfold match_Parts.j3
 refine W.loop_c (fun s:List Int×List Int×Int=>∃ t:Nat,s.2.2=t/\t<=R/\s.1.length=R/\s.2.1.length=C/\(∀ i,zr s.1 i->Zr (El m) R (fo p.row) (fo p.col) i)/\(∀ k,zr s.2.1 k->Zc (El m) R (fo p.row) (fo p.col) k)/\
  (∀ i,zr s.1 i->∀ k,k ∈ El m i->zr s.2.1 k/\∀ i',fo p.col k=some i'->zr s.1 i')/\∀ j,j<t->fo p.row j=none->zr s.1 j) (fun s=>R - s.2.2.toNat) ⟨0,rfl,Nat.zero_le _,hrs,hcs,fun i h=>absurd h (nr i),fun i h=>absurd h (nc i),fun i h=>absurd h (nr i),fun j hj=>by omega⟩ ?_
 clear nr nc hr1 hc1' hrs hcs
 rintro ⟨rs,cs,_⟩ P ⟨t,rfl,ht,hrs,hcs,i1,i2,i3,i4⟩ hgo hbrk hout
 simp only at hrs hcs i1 i2 i3 i4 hgo hbrk |-
 unfold match_Parts.l3
 simp only [gi_gd]
 refine W.run_if (fun c=>W.req_i (by omega) (W.run_if (fun c2=>?_) fun c2=>hgo _ ⟨t+1,by simp,by omega,hrs,hcs,i1,i2,i3,fun j hj hn=>?_⟩ (by simp;omega))) fun c=>hbrk _ ?_
 ·have hn:fo p.row t=none:=fo_neg (by omega) c2
  refine W.bd (over_run ⟨t,R,C,rfl,by omega,hI,hrs,hcs,hrl,hcl,hM.prs,fun rows' cols' hO hz=>hgo _ ⟨t+1,by simp,by omega,by rw [hO.rl];exact hrs,by rw [hO.cl];exact hcs,fun i hi=>?_,fun k hk=>?_,fun i hi k hk=>?_,fun j hj hn'=>?_⟩ (by simp;omega)⟩)
  ·rcases hO.rso i hi with g | g
   ·exact i1 i g
   ·exact ⟨t,by omega,hn,g⟩
  ·rcases hO.cso k hk with g | ⟨i,g1,g2⟩
   ·exact i2 k g
   ·exact ⟨i,⟨t,by omega,hn,g1⟩,g2⟩
  ·by_cases e:zr rs i
   ·exact ⟨hO.cup _ (i3 i e k hk).1,fun i' hi'=>hO.rup _ ((i3 i e k hk).2 i' hi')⟩
   ·exact hO.clo i hi e k hk
  ·by_cases e:j=t
   ·rw [e];exact hz
   ·exact hO.rup _ (i4 j (by omega) hn')
 ·by_cases e:j=t
  ·rw [e,fo_pos (by omega) c2] at hn;cases hn
  ·exact i4 j (by omega) hn
 have i4:∀ j,j<R->fo p.row j=none->zr rs j:=fun j hj=>i4 j (by omega)
 clear hgo hbrk hout c
 have rz:∀ i,i<R->(gd rs i=0 ↔ Zr (El m) R (fo p.row) (fo p.col) i):=fun i hi=>⟨fun h=>i1 i ⟨by omega,h⟩,fun ⟨j,h1,h2,h3⟩=>by
  have:∀ i,Rfr (El m) (fo p.col) j i->zr rs i:=fun i h3=>by
   induction h3 with
   | refl=>exact i4 j h1 h2
   | step _ a b ih=>exact (i3 _ ih _ a).2 _ b
  exact (this i h3).2⟩
 have cz:∀ k,k<C->(gd cs k=0 ↔ Zc (El m) R (fo p.row) (fo p.col) k):=fun k hk=>⟨fun h=>i2 k ⟨by omega,h⟩,fun ⟨i,h1,h2⟩=>(i3 i ⟨by rw [hrs];exact hM.zlt h1,(rz i (hM.zlt h1)).2 h1⟩ k h2).1.2⟩
 clear i1 i2 i3 i4
 unfold match_Parts.j4
 refine W.bd (reached_run hI hrl hcl hM fun us hbu hsu=>?_)
 refine W.loop_c (fun s:List Int×List Int×Int=>∃ t:Nat,s.2.2=t/\t<=R/\PartsR m R C (fo p.row) (fo p.col) s.1 s.2.1) (fun s=>R - s.2.2.toNat) ⟨0,rfl,Nat.zero_le _,⟨hrs,hcs,hM,rz,cz⟩⟩ ?_
 clear hrs hcs rz cz
 rintro ⟨rs,cs,_⟩ P ⟨t,rfl,ht,hP⟩ hgo hbrk hout
 simp only at hP hgo hbrk |-
 have hrs:=hP.rl
 have hcs:=hP.cl
 unfold match_Parts.l2
 simp only [gi_gd]
 rw [hR]
 have r64:=hI.r64
 refine W.run_if (fun c=>W.bd (match_bits_has_run hbu (by omega) (W.run_if (fun c2=>?_) fun c2=>hgo _ ⟨t+1,by simp,by omega,hP⟩ (by simp;omega)))) fun c=>hbrk _ ?_
 ·obtain ⟨_,hsf⟩:=hsu t (by omega) c2
  obtain ⟨k2,hk2⟩:∃ k2,fo p.row t=some k2:=by
   cases h:fo p.row t with
   | none=>exact absurd h hsf.2
   | some k2=>exact ⟨k2,rfl⟩
  have e2:=(fo_some hk2).2
  have k2C:k2<C:=by
   have:=(hM.prs.rc t k2).1 hk2
   rw [<- hcl];exact (fo_some this).1
  have hnc:=hM.safc hsf hk2
  rw [e2]
  simp only [Int.toNat_natCast]
  refine W.req_i (by omega) (W.req_i (by omega) (W.req_i (by omega) (hgo _ ⟨t+1,by simp,by omega,⟨by simpa using hrs,by simpa using hcs,hM,fun i hi=>?_,fun k hk=>?_⟩⟩ (by simp;omega))))
  ·show gd (rs.set t 2) i=0 ↔ _
   rw [gd_set]
   by_cases e:t=i
   ·subst e
    rw [if_pos ⟨rfl,by omega⟩]
    exact ⟨fun h=>by omega,fun h=>absurd h hsf.1⟩
   ·rw [if_neg fun g=>e g.1];exact hP.rz i hi
  ·show gd (cs.set k2 2) k=0 ↔ _
   rw [gd_set]
   by_cases e:k2=k
   ·subst e
    rw [if_pos ⟨rfl,by omega⟩]
    exact ⟨fun h=>by omega,fun h=>absurd h hnc⟩
   ·rw [if_neg fun g=>e g.1];exact hP.cz k hk
 clear hgo hbrk hout c
 unfold match_Parts.j5
 refine W.loop_c (fun s:List Int×Int=>∃ t:Nat,s.2=t/\t<=C/\PartsR m R C (fo p.row) (fo p.col) rs s.1) (fun s=>C - s.2.toNat) ⟨0,rfl,Nat.zero_le _,hP⟩ ?_
 clear hP hcs
 rintro ⟨cs,_⟩ P ⟨t,rfl,ht,hP⟩ hgo hbrk hout
 simp only at hP hgo hbrk |-
 have hcs:=hP.cl
 unfold match_Parts.l1
 simp only [gi_gd]
 refine W.run_if (fun c=>W.req_i (by omega) (W.run_if (fun c2=>W.req_i (by omega) (hgo _ ⟨t+1,by simp,by omega,⟨hrs,by simpa using hcs,hM,hP.rz,fun k hk=>?_⟩⟩ (by simp;omega))) fun c2=>hgo _ ⟨t+1,by simp,by omega,hP⟩ (by simp;omega))) fun c=>hbrk _ ?_
 ·show gd (cs.set t 2) k=0 ↔ _
  rw [gd_set]
  by_cases e:t=k
  ·subst e
   rw [if_pos ⟨rfl,by omega⟩]
   exact ⟨fun h=>by omega,fun h=>absurd h (hM.free (fo_neg (by omega) c2))⟩
  ·rw [if_neg fun g=>e g.1];exact hP.cz k hk
 ·unfold match_Parts.j6
  exact H _ _ rs cs hP
end Go.Proofs.Ytbjnmmgnonldnaa.E
