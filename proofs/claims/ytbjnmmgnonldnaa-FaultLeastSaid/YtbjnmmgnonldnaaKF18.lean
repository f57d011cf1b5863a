/- Joined. -/
import Derived.Test.YtbjnmmgnonldnaaKF16
set_option linter.unusedVariables false
set_option linter.unusedSimpArgs false
namespace Go.Proofs.Ytbjnmmgnonldnaa.E
open Go Go.RowKit
def W.Sr {α:Type} (w:W α):Prop:=¬ w.run fun _=>False
namespace W
variable {α β S R A:Type}
theorem Sr.ret (a:α):(W.ret a).Sr:=fun h=>h
theorem Sr.bind {m:W α} {f:α->W β} (h:m.Sr) (k:∀ a,(f a).Sr):(W.bind m f).Sr:=fun g=>h (m.mono (fun a ha=>k a ha) g)
theorem Sr.req {c:Prop} {m:W α} (h:m.Sr):(W.req c m).Sr:=fun g=>h g.2
theorem Sr.ite {c:Prop} [Decidable c] {a b:W α} (h:a.Sr) (k:b.Sr):(if c then a else b).Sr:=by split <;> assumption
theorem Sr.loop {body:S->W (Ctl S R)} (h:∀ s,(body s).Sr) (s:S):(W.loop body s).Sr:=fun ⟨I,μ,h0,h1⟩=>by
 have:∀ n s,μ s<n->I s->False:=fun n=>by
  induction n with
  | zero=>intro s hs;omega
  | succ n ih=>
   intro s hs hI
   refine h s ((body s).mono (fun c hc=>?_) (h1 s hI))
   cases c with
   | go s'=>exact ih s' (by have:=hc.2;omega) hc.1
   | brk s'=>exact hc
   | out r=>exact hc
 exact this _ s (Nat.lt_succ_self _) h0
theorem Sr.fix {b:(A->W R)->A->W R} (h:∀ rec,(∀ a,(rec a).Sr)->∀ a,(b rec a).Sr) (a:A):(W.fix b a).Sr:=fun ⟨n,k⟩=>by
 have:∀ n a,(W.iter b n a).Sr:=fun n=>by
  induction n with
  | zero=>exact fun a g=>g
  | succ n ih=>exact h _ ih
 exact this n a k
theorem Sr.on {D:S->W β} {O:R->W β} (h:∀ s,(D s).Sr) (k:∀ r,(O r).Sr) (x:Lp S R):(Lp.on D O x).Sr:=by
 cases x with
 | done s=>exact h s
 | out r=>exact k r
theorem Sr.ex {w:W α} (h:w.Sr) {Q:α->Prop} (k:w.run Q):∃ a,Q a:=Classical.byContradiction fun c=>h (w.mono (fun a ha=>c ⟨a,ha⟩) k)
end W
theorem sr_none {n:Int} :(match_none.f n).Sr:=by
 unfold match_none.f
 refine .req (.bind (.loop (fun s=>?_) _) (.on (fun s=>?_) fun r=>.ret _))
 ·unfold match_none.l1
  exact .ite (.req (.ret _)) (.ret _)
 ·unfold match_none.j1
  exact .ret _
theorem sr_grow {x:Int} {m:api_Incidence} {b:A2_u64} {p:match_pairs} :(match_pairs_grow_1.f x m b p).Sr:=by
 unfold match_pairs_grow_1.f
 refine .fix (fun rec hr a=>?_) _
 unfold match_pairs_grow_1.b
 refine .req (.bind (.loop (fun s=>?_) _) (.on (fun s=>.ret _) fun r=>.ret _))
 unfold match_pairs_grow_1.l1 match_bits_has.f match_every.f match_bits_with.f
 refine .ite (.req (.bind (.req (.req (.req (.ret _)))) fun _=>.ite (.ret _) (.bind (.ret _) fun _=>.ite (.bind (.req (.req (.req (.req (.ret _))))) fun _=>.req (.ite (.req (.req (.ret _))) (.req (.bind (hr _) fun _=>.ite (.req (.req (.ret _))) (.ret _))))) (.ret _)))) (.ret _)
theorem sr_match {m:api_Incidence} :(match_match.f m).Sr:=by
 unfold match_match.f
 refine .bind sr_none fun _=>.bind sr_none fun _=>.bind (.loop (fun s=>?_) _) (.on (fun s=>.ret _) fun r=>.ret _)
 unfold match_match.l1 match_every.f match_pairs_grow.f
 exact .ite (.bind (.ret _) fun _=>.ite (.bind (.bind sr_grow fun _=>.ret _) fun _=>.ret _) (.ret _)) (.ret _)
theorem mch_ex {L:List (List Int)} {C:Nat} (h:Rws L C) (hC:C<=64) (hl:L.length<=64):∃ row col,Mch (Ef L) L.length row col:=by
 have hI:Inc (⟨L.length,C,L⟩:api_Incidence) L.length C:=⟨rfl,rfl,rfl,hl,hC,fun r k hk=>by
  rcases Nat.lt_or_ge r L.length with g | g
  ·obtain ⟨t,ht,rfl⟩:=List.mem_iff_getElem.1 hk
   have:=h r g t ht
   rw [gd_lt ht] at this
   exact ⟨this.1,this.2.1⟩
  ·have e:gd (⟨L.length,C,L⟩:api_Incidence).E r= []:=gd_none g
   rw [e] at hk;cases hk⟩
 obtain ⟨p,row,col,hp⟩:=sr_match.ex (match_run (Q:=fun _=>∃ row col,Mch (Ef L) L.length row col) hI fun p _ _ hp=>⟨_,_,hp⟩)
 exact ⟨row,col,hp⟩
section
variable {E E':Nat->List Nat} {n N:Nat} {φ ψ:Nat->Nat} {row col row' col':Nat->Option Nat}
structure Emb (E E':Nat->List Nat) (n N:Nat) (φ ψ:Nat->Nat):Prop where
 lt:∀ i,i<n->φ i<N
 inv:∀ i,i<n->ψ (φ i)=i
 eq:∀ i,i<n->E' (φ i)=E i
 out:∀ r,(∀ i,i<n->φ i≠r)->E' r= []
open Classical in
theorem Emb.up (e:Emb E E' n N φ ψ) (h:Mch E n row col):Mch E' N (fun r=>if ∃ i,i<n/\φ i=r then row (ψ r) else none) (fun k=>(col k).map φ):=by
 obtain ⟨R,S,hc,hR,hu⟩:=h.cls
 refine ⟨⟨fun r k=>⟨fun g=>?_,fun g=>?_⟩,fun r k g=>?_⟩,fun r hr=>if_neg fun ⟨i,hi,er⟩=>by have:=e.lt i hi;omega,fun r=>r<N/\∀ i,i<n->φ i=r->R i,S,⟨fun r k hr hk=>?_,fun k hk=>?_⟩,fun r hr=>hr.1,fun r hr g=>⟨hr,fun i hi er=>?_⟩⟩
 ·skip
  split at g
  ·rename_i hx
   obtain ⟨i,hi,rfl⟩:=hx
   rw [e.inv i hi] at g
   rw [(h.prs.rc i k).1 g];rfl
  ·cases g
 ·skip
  obtain ⟨i,g1,rfl⟩:=Option.map_eq_some_iff.1 g
  have hr:=(h.prs.rc i k).2 g1
  have hi:=h.lt hr
  rw [if_pos ⟨i,hi,rfl⟩,e.inv i hi,hr]
 ·skip
  split at g
  ·rename_i hx
   obtain ⟨i,hi,rfl⟩:=hx
   rw [e.inv i hi] at g
   rw [e.eq i hi]
   exact h.prs.inc i k g
  ·cases g
 ·by_cases hx:∃ i,i<n/\φ i=r
  ·obtain ⟨i,hi,rfl⟩:=hx
   rw [e.eq i hi] at hk
   exact hc.nb i k (hr.2 i hi rfl) hk
  ·rw [e.out r fun i hi er=>hx ⟨i,hi,er⟩] at hk;cases hk
 ·obtain ⟨i,g1,g2⟩:=hc.own k hk
  have hi:=hR i g1
  refine ⟨φ i,⟨e.lt i hi,fun j hj ej=>?_⟩,by simp only [g2];rfl⟩
  have:=e.inv j hj
  rw [ej,e.inv i hi] at this
  exact this ▸ g1
 ·subst er
  rw [if_pos ⟨i,hi,rfl⟩,e.inv i hi] at g
  exact hu i hi g
open Classical in
theorem Emb.zr (e:Emb E E' n N φ ψ) (h:Mch E n row col) {i:Nat} (hi:i<n):Zr E' N (fun r=>if ∃ i,i<n/\φ i=r then row (ψ r) else none) (fun k=>(col k).map φ) (φ i) ↔ Zr E n row col i:=by
 have inj:∀ a b,a<n->b<n->φ a=φ b->a=b:=fun a b ha hb g=>by rw [<- e.inv a ha,<- e.inv b hb,g]
 constructor
 ·rintro ⟨j',h1,h2,h3⟩
  by_cases hx:∃ j,j<n/\φ j=j'
  ·obtain ⟨j,hj,rfl⟩:=hx
   replace h2:(if ∃ i,i<n/\φ i=φ j then row (ψ (φ j)) else none)=none:=h2
   rw [if_pos ⟨j,hj,rfl⟩,e.inv j hj] at h2
   have:∀ x,Rfr E' (fun k=>(col k).map φ) (φ j) x->∃ y,y<n/\φ y=x/\Rfr E col j y:=fun x hx=>by
    induction hx with
    | refl=>exact ⟨j,hj,rfl,.refl⟩
    | step _ a b ih=>
     obtain ⟨y,y1,y2,y3⟩:=ih
     subst y2
     rw [e.eq y y1] at a
     obtain ⟨z,z1,z2⟩:=Option.map_eq_some_iff.1 b
     exact ⟨z,h.lt ((h.prs.rc _ _).2 z1),z2,y3.step a z1⟩
   obtain ⟨y,y1,y2,y3⟩:=this _ h3
   rw [inj y i y1 hi y2] at y3
   exact ⟨j,hj,h2,y3⟩
  ·have e0:E' j'= []:=e.out j' fun i hi er=>hx ⟨i,hi,er⟩
   have:∀ x,Rfr E' (fun k=>(col k).map φ) j' x->x=j':=fun x hx=>by
    induction hx with
    | refl=>rfl
    | step _ a b ih=>subst ih;rw [e0] at a;cases a
   exact absurd ⟨i,hi,this _ h3⟩ hx
 ·rintro ⟨j,h1,h2,h3⟩
  refine ⟨φ j,e.lt j h1,by simp only;rw [if_pos ⟨j,h1,rfl⟩,e.inv j h1,h2],?_⟩
  have:∀ x,Rfr E col j x->x<n/\Rfr E' (fun k=>(col k).map φ) (φ j) (φ x):=fun x hx=>by
   induction hx with
   | refl=>exact ⟨h1,.refl⟩
   | step _ a b ih=>exact ⟨h.lt ((h.prs.rc _ _).2 b),ih.2.step (by rw [e.eq _ ih.1];exact a) (by simp only [b];rfl)⟩
  exact (this i h3).2
end
def msk (L:List (List Int)) (S:Nat->Bool):List (List Int):=(List.range L.length).map fun i=>if S i=true then gd L i else []
section
variable {L:List (List Int)} {S:Nat->Bool} {C:Nat}
theorem msk_len:(msk L S).length=L.length:=by unfold msk;simp
theorem msk_gd {i:Nat} :gd (msk L S) i=if S i=true then gd L i else []:=by
 rcases Nat.lt_or_ge i L.length with g | g
 ·unfold msk
  rw [gd_map (by simpa using g),gd_lt (l:=List.range L.length) (by simpa using g),List.getElem_range]
 ·rw [gd_none (by rw [msk_len];exact g),gd_none (l:=L) g]
  split <;> rfl
theorem msk_ef {i:Nat} :Ef (msk L S) i=if S i=true then Ef L i else []:=by
 unfold Ef
 rw [msk_gd]
 split <;> rfl
theorem Rws.msk (h:Rws L C):Rws (msk L S) C:=fun r hr=>by
 rw [msk_len] at hr
 rw [msk_gd]
 split
 ·exact h r hr
 ·exact fun t ht=>absurd ht (Nat.not_lt_zero _)
theorem msk_true:E.msk L (fun _=>true)=L:=list_gd_ext msk_len fun k _=>by rw [msk_gd,if_pos rfl]
theorem sel_od {ix:List Nat} (hR:Rws L C) (hC:C<=64) (hl:L.length<=64) (hix:∀ i,i ∈ ix->i<L.length) (nd:ix.Nodup) (hil:ix.length<=64) {t:Nat} (ht:t<ix.length):Od (ix.map (gd L)) t ↔ Od (E.msk L fun i=>decide (i ∈ ix)) (gd ix t):=by
 classical
 have hR2:Rws (ix.map (gd L)) C:=fun r hr=>by
  have hr2:r<ix.length:=by simpa using hr
  rw [gd_map hr2]
  exact hR _ (hix _ (gd_mem hr2))
 have e:Emb (Ef (ix.map (gd L))) (Ef (E.msk L fun i=>decide (i ∈ ix))) (ix.map (gd L)).length (E.msk L fun i=>decide (i ∈ ix)).length (gd ix) (fun r=>ix.idxOf r):=by
  rw [List.length_map,msk_len]
  refine ⟨fun i hi=>hix _ (gd_mem hi),fun i hi=>?_,fun i hi=>?_,fun r hr=>?_⟩
  ·rw [gd_lt hi];exact nd.idxOf_getElem i hi
  ·rw [msk_ef,if_pos (decide_eq_true (gd_mem hi))]
   unfold Ef
   rw [gd_map hi]
  ·rw [msk_ef,if_neg]
   intro g
   obtain ⟨i,hi,er⟩:=List.mem_iff_getElem.1 (of_decide_eq_true g)
   exact hr i hi (by rw [gd_lt hi,er])
 obtain ⟨row,col,hM⟩:=mch_ex hR2 hC (by simpa using hil)
 rw [<- Od.iff hR2 hM,<- Od.iff hR.msk (e.up hM),e.zr hM (by simpa using ht)]
end
end Go.Proofs.Ytbjnmmgnonldnaa.E
namespace Go.Proofs.Ytbjnmmgnonldnaa.E
open Go Go.RowKit
theorem tight_zr {E:Nat->List Nat} {n i:Nat} {row col:Nat->Option Nat} {R:Nat->Bool} {K:List Nat} (h:Mch E n row col) (hm:Mt (fun i k=>k ∈ E i) (List.range n) row) (t:Tight (fun i k=>k ∈ E i) (List.range n) row R K) (hi:Zr E n row col i):R i=true:=by
 have cl:=t.clo hm
 obtain ⟨j,h1,h2,h3⟩:=hi
 have:∀ i,Rfr E col j i->i<n/\R i=true:=fun i h3=>by
  induction h3 with
  | refl=>exact ⟨h1,cl.un j (List.mem_range.2 h1) h2⟩
  | step _ a b ih=>
   have hr:=(h.prs.rc _ _).2 b
   have lt:=h.lt hr
   exact ⟨lt,cl.st _ _ _ (List.mem_range.2 ih.1) (List.mem_range.2 lt) ih.2 a hr⟩
 exact (this i h3).2
section
variable {L:List (List Int)} {C:Nat}
theorem mono_od (hR:Rws L C) (hC:C<=64) (hl:L.length<=64) {S T:Nat->Bool} (hST:∀ i,S i=true->T i=true) {i:Nat} (hi:S i=true) (h:Od (msk L S) i):Od (msk L T) i:=by
 classical
 obtain ⟨rowT,colT,MT⟩:=mch_ex (L:=msk L T) hR.msk hC (by rw [msk_len];exact hl)
 refine (Od.iff hR.msk MT).1 (Classical.byContradiction fun nB=>?_)
 obtain ⟨row1,col1,M1⟩:=mch_ex (L:=msk L fun r=>S r && decide (Zr (Ef (msk L T)) (msk L T).length rowT colT r)) hR.msk hC (by rw [msk_len];exact hl)
 obtain ⟨row,col,M⟩:=mch_ex (L:=msk L S) hR.msk hC (by rw [msk_len];exact hl)
 rw [<- Od.iff hR.msk M] at h
 rw [msk_len] at MT M1 M h nB
 simp only [msk_len] at M1
 generalize hB:(fun r=>Zr (Ef (msk L T)) L.length rowT colT r)=B at M1
 have nB: ¬ B i:=by rw [<- hB];exact nB
 have hBd:∀ r,B r ↔ Zr (Ef (msk L T)) L.length rowT colT r:=fun r=>by rw [<- hB]
 have eS1:(fun r=>S r && decide (Zr (Ef (msk L T)) L.length rowT colT r))=fun r=>S r && decide (B r):=by funext r;rw [decide_eq_decide.2 (hBd r)]
 rw [eS1] at M1
 generalize hS1:(fun r=>S r && decide (B r))=S1 at M1
 have hS1d:∀ r,S1 r=true ↔ S r=true/\B r:=fun r=>by rw [<- hS1];simp
 clear hB eS1 hS1
 let R1:Nat->Bool:=fun r=>!S r || (S1 r && decide (Zr (Ef (msk L S1)) L.length row1 col1 r))
 have R1d:∀ r,R1 r=true ↔ S r=false\/S1 r=true/\Zr (Ef (msk L S1)) L.length row1 col1 r:=fun r=>by simp [R1]
 let K1:=(List.range C).filter fun k=>decide (Zc (Ef (msk L S1)) L.length row1 col1 k)
 have zc1:∀ k,Zc (Ef (msk L S1)) L.length row1 col1 k->∃ r,r<L.length/\R1 r=true/\S1 r=true/\row1 r=some k:=fun k hk=>by
  obtain ⟨r,h1,h2⟩:=M1.zc hk
  have hr:=(M1.prs.rc r k).2 h1
  have he:=M1.prs.inc r k hr
  rw [msk_ef] at he
  split at he
  ·rename_i c
   exact ⟨r,M1.lt hr,(R1d r).2 (.inr ⟨c,h2⟩),c,hr⟩
  ·cases he
 have bar:Bar (fun i k=>k ∈ Ef (msk L S) i) (List.range L.length) R1 K1:=⟨nodup_fil List.nodup_range,fun r k hr h1 hk=>by
  have kC:=(hR.msk (S:=S)).lt hk
  rw [msk_ef] at hk
  split at hk
  ·rename_i c
   rcases (R1d r).1 h1 with g | ⟨g1,g2⟩
   ·rw [c] at g;cases g
   ·refine List.mem_filter.2 ⟨List.mem_range.2 kC.1,decide_eq_true ⟨r,g2,?_⟩⟩
    rw [msk_ef,if_pos g1];exact hk
  ·cases hk⟩
 let m:Nat->Option Nat:=fun r=>if S1 r=true then row1 r else if S r=true then rowT r else none
 have inS:∀ r k,m r=some k->k ∈ Ef L r/\S r=true:=fun r k h=>by
  simp only [m] at h
  split at h
  ·rename_i c
   have:=M1.prs.inc r k h
   rw [msk_ef,if_pos c] at this
   exact ⟨this,((hS1d r).1 c).1⟩
  ·split at h
   ·rename_i c
    have:=M1.prs
    have:=MT.prs.inc r k h
    rw [msk_ef,if_pos (hST r c)] at this
    exact ⟨this,c⟩
   ·cases h
 have cross:∀ r r2 k,S1 r=true->row1 r=some k->S1 r2≠true->S r2=true->rowT r2=some k->False:=fun r r2 k h1 h2 h3 h4 h5=>by
  obtain ⟨g1,g2⟩:=(hS1d r).1 h1
  have he:=M1.prs.inc r k h2
  rw [msk_ef,if_pos h1] at he
  have z:Zc (Ef (msk L T)) L.length rowT colT k:=⟨r,(hBd r).1 g2,by rw [msk_ef,if_pos (hST r g1)];exact he⟩
  obtain ⟨x,x1,x2⟩:=MT.zc z
  rw [(MT.prs.rc r2 k).1 h5] at x1
  exact h3 ((hS1d r2).2 ⟨h4,(hBd r2).2 (Option.some.inj x1 ▸ x2)⟩)
 have mt:Mt (fun i k=>k ∈ Ef (msk L S) i) (List.range L.length) m:=⟨fun r k _ h=>by
  obtain ⟨a,b⟩:=inS r k h
  show k ∈ Ef (msk L S) r
  rw [msk_ef,if_pos b];exact a,fun r r2 k _ _ h1 h2=>by
  have s1:=(inS r k h1).2
  have s2:=(inS r2 k h2).2
  simp only [m] at h1 h2
  by_cases c1:S1 r=true <;> by_cases c2:S1 r2=true
  ·rw [if_pos c1] at h1
   rw [if_pos c2] at h2
   have a:=(M1.prs.rc r k).1 h1
   rw [(M1.prs.rc r2 k).1 h2] at a
   exact (Option.some.inj a).symm
  ·rw [if_pos c1] at h1
   rw [if_neg c2,if_pos s2] at h2
   exact (cross r r2 k c1 h1 c2 s2 h2).elim
  ·rw [if_neg c1,if_pos s1] at h1
   rw [if_pos c2] at h2
   exact (cross r2 r k c2 h2 c1 s1 h1).elim
  ·rw [if_neg c1,if_pos s1] at h1
   rw [if_neg c2,if_pos s2] at h2
   have a:=(MT.prs.rc r k).1 h1
   rw [(MT.prs.rc r2 k).1 h2] at a
   exact (Option.some.inj a).symm⟩
 obtain ⟨hm,R0,K0,t0⟩:=M.tight fun r k _ hk=>((hR.msk (S:=S)).lt hk).1
 have le1:=t0.bar.le List.nodup_range mt
 rw [<- t0.sz List.nodup_range hm] at le1
 rw [szM_two (R:=R1)] at le1
 have c1:cno (List.range L.length) R1=((List.range L.length).filter fun i=>!R1 i && (m i).isSome).length:=by
  unfold cno
  congr 1
  refine List.filter_congr fun r hr=>?_
  have hrn:=List.mem_range.1 hr
  cases hx:R1 r with
  | true=>rfl
  | false=>
   have nR: ¬ (S r=false\/S1 r=true/\Zr (Ef (msk L S1)) L.length row1 col1 r):=fun g=>by rw [(R1d r).2 g] at hx;cases hx
   have sr:S r=true:=by
    cases e:S r with
    | true=>rfl
    | false=>exact absurd (.inl e) nR
   have:m r≠none:=fun hn=>by
    simp only [m] at hn
    by_cases c:S1 r=true
    ·rw [if_pos c] at hn
     exact nR (.inr ⟨c,r,hrn,hn,.refl⟩)
    ·rw [if_neg c,if_pos sr] at hn
     exact c ((hS1d r).2 ⟨sr,(hBd r).2 ⟨r,hrn,hn,.refl⟩⟩)
   cases e:m r with
   | none=>exact absurd e this
   | some x=>rfl
 have c2:K1.length<=(colsM (List.range L.length) m R1).length:=bar.nd.length_le_of_subset fun k hk=>by
  obtain ⟨r,r1,r2,r3,r4⟩:=zc1 k (of_decide_eq_true (List.mem_filter.1 hk).2)
  exact colsM_mem.2 ⟨r,List.mem_range.2 r1,r2,by simp only [m];rw [if_pos r3,r4]⟩
 have tt:=bar.tight List.nodup_range hm (by omega)
 rcases (R1d i).1 (tight_zr M hm tt h) with g | ⟨g,_⟩
 ·rw [hi] at g;cases g
 ·exact nB ((hS1d i).1 g).2
open Classical in
noncomputable def rch (L:List (List Int)) (col:Nat->Option Nat) (j x:Nat):Bool:=decide (Rfr (Ef L) col j x)
theorem rch_iff {col:Nat->Option Nat} {j x:Nat} :rch L col j x=true ↔ Rfr (Ef L) col j x:=by classical unfold rch;exact decide_eq_true_iff
section
variable {row col:Nat->Option Nat} {j:Nat}
theorem rch_lt (h:Mch (Ef L) L.length row col) (hj:j<L.length) {x:Nat} (hx:Rfr (Ef L) col j x):x<L.length:=by
 cases hx with
 | refl=>exact hj
 | step _ a b=>exact h.lt ((h.prs.rc _ _).2 b)
theorem rch_some (h:Mch (Ef L) L.length row col) (hj:row j=none) {x:Nat} (hx:Rfr (Ef L) col j x) (hn:x≠j):∃ k,row x=some k:=by
 cases hx with
 | refl=>exact absurd rfl hn
 | step _ a b=>exact ⟨_,(h.prs.rc _ _).2 b⟩
open Classical in
theorem rch_mch (h:Mch (Ef L) L.length row col) (hj:j<L.length) (hn:row j=none):Mch (Ef (msk L (rch L col j))) L.length (fun r=>if rch L col j r=true then row r else none) (fun k=>if ∃ x,rch L col j x=true/\k ∈ Ef L x then col k else none):=by
 have st:∀ x k r,rch L col j x=true->k ∈ Ef L x->col k=some r->rch L col j r=true:=fun x k r h1 h2 h3=>rch_iff.2 ((rch_iff.1 h1).step h2 h3)
 refine ⟨⟨fun r k=>⟨fun g=>?_,fun g=>?_⟩,fun r k g=>?_⟩,fun r hr=>?_,fun r=>r<L.length,fun k=>∃ x,rch L col j x=true/\k ∈ Ef L x,⟨fun r k hr hk=>?_,fun k hk=>?_⟩,fun r hr=>hr,fun r hr _=>hr⟩
 ·split at g
  ·rename_i c
   rw [if_pos ⟨r,c,h.prs.inc r k g⟩]
   exact (h.prs.rc r k).1 g
  ·cases g
 ·split at g
  ·rename_i c
   obtain ⟨x,x1,x2⟩:=c
   rw [if_pos (st x k r x1 x2 g)]
   exact (h.prs.rc r k).2 g
  ·cases g
 ·split at g
  ·rename_i c
   rw [msk_ef,if_pos c]
   exact h.prs.inc r k g
  ·cases g
 ·split
  ·exact h.hi r hr
  ·rfl
 ·rw [msk_ef] at hk
  split at hk
  ·rename_i c
   exact ⟨r,c,hk⟩
  ·cases hk
 ·obtain ⟨x,x1,x2⟩:=hk
  obtain ⟨r,r1,r2⟩:=h.zc (k:=k) ⟨x,⟨j,hj,hn,rch_iff.1 x1⟩,x2⟩
  exact ⟨r,h.zlt r2,by rw [if_pos ⟨x,x1,x2⟩];exact r1⟩
theorem rch_od (hR:Rws L C) (h:Mch (Ef L) L.length row col) (hj:j<L.length) (hn:row j=none) {x:Nat} (hx:rch L col j x=true):Od (msk L (rch L col j)) x:=by
 classical
 have M:=rch_mch h hj hn
 have M2:=M
 rw [<- msk_len (L:=L) (S:=rch L col j)] at M2
 rw [<- Od.iff hR.msk M2]
 refine ⟨j,by rw [msk_len];exact hj,by simp only;split <;> first | exact hn | rfl,?_⟩
 replace hx:=rch_iff.1 hx
 induction hx with
 | refl=>exact .refl
 | step g a b ih=>
  refine ih.step (by rw [msk_ef,if_pos (rch_iff.2 g)];exact a) ?_
  rw [if_pos ⟨_,rch_iff.2 g,a⟩]
  exact b
theorem rch_least (hR:Rws L C) (hC:C<=64) (hl:L.length<=64) (h:Mch (Ef L) L.length row col) (hj:j<L.length) (hn:row j=none) {ix:List Nat} (nd:ix.Nodup) (hne:ix≠[]) (hix:∀ i,i ∈ ix->rch L col j i=true) {x:Nat} (hx:rch L col j x=true) (hxi:x ∉ ix): ¬ ∀ t,t<ix.length->Od (ix.map (gd L)) t:=fun hT=>by
 classical
 have lt:∀ i,rch L col j i=true->i<L.length:=fun i hi=>rch_lt h hj (rch_iff.1 hi)
 have M:=rch_mch h hj hn
 generalize hS:rch L col j=S at *
 generalize hr:(fun r=>if S r=true then row r else none)=rowS at M
 generalize hc:(fun k=>if ∃ x,S x=true/\k ∈ Ef L x then col k else none)=colS at M
 obtain ⟨row2,col2,M2⟩:=mch_ex (L:=msk L fun r=>S r && decide (r≠x)) hR.msk hC (by rw [msk_len];exact hl)
 rw [msk_len] at M2
 obtain ⟨m1,R,K,t1⟩:=M.tight fun r k _ hk=>((hR.msk (S:=S)).lt hk).1
 obtain ⟨m2,R',K',t2⟩:=M2.tight fun r k _ hk=>(hR.msk.lt hk).1
 have xl:=lt x hx
 have er:∀ r,r ∈ (List.range L.length).erase x->r<L.length/\r≠x:=fun r hr=>by
  rw [List.nodup_range.mem_erase_iff] at hr
  exact ⟨List.mem_range.1 hr.2,hr.1⟩
 have eE:∀ r,r≠x->Ef (msk L fun r=>S r && decide (r≠x)) r=Ef (msk L S) r:=fun r hr=>by
  rw [msk_ef,msk_ef]
  simp [hr]
 have m3:Mt (fun i k=>k ∈ Ef (msk L S) i) ((List.range L.length).erase x) row2:=⟨fun r k hr hk=>by
  have:=er r hr
  show k ∈ Ef (msk L S) r
  rw [<- eE r this.2]
  exact m2.inc r k (List.mem_range.2 this.1) hk,fun r r2 k h1 h2=>m2.inj r r2 k (List.mem_range.2 (er r h1).1) (List.mem_range.2 (er r2 h2).1)⟩
 have x0:row2 x=none:=by
  cases e:row2 x with
  | none=>rfl
  | some k=>
   have:=M2.prs.inc x k e
   rw [msk_ef,if_neg (by simp)] at this;cases this
 have t3:Tight (fun i k=>k ∈ Ef (msk L S) i) ((List.range L.length).erase x) row2 R' K':=⟨⟨t2.bar.nd,fun r k hr h1 hk=>t2.bar.nb r k (List.mem_range.2 (er r hr).1) h1 (by
   show k ∈ Ef _ r
   rw [eE r (er r hr).2];exact hk)⟩,fun r hr=>t2.un r (List.mem_range.2 (er r hr).1),fun k hk=>by
  obtain ⟨r,h1,h2,h3⟩:=t2.all k hk
  refine ⟨r,(List.nodup_range.mem_erase_iff).2 ⟨fun e=>?_,h1⟩,h2,h3⟩
  rw [e,x0] at h3;cases h3⟩
 have odx:=rch_od hR h hj hn (x:=x) (by rw [hS];exact hx)
 rw [hS] at odx
 have M':Mch (Ef (msk L S)) (msk L S).length rowS colS:=by rw [msk_len];exact M
 have zx:=(Od.iff hR.msk M').2 odx
 rw [msk_len] at zx
 have e:=(out_iff List.nodup_range (List.mem_range.2 xl) m1 t1 (Z:=Zr (Ef (msk L S)) L.length rowS colS) ⟨fun j hj hn=>⟨j,List.mem_range.1 hj,hn,.refl⟩,fun a k j ha hj hz hk hc=>hz.step hk ((M.prs.rc j k).1 hc)⟩ (fun Y hY j hj hz=>by
  obtain ⟨j0,h1,h2,h3⟩:=hz
  have:∀ x,Rfr (Ef (msk L S)) colS j0 x->x<L.length/\Y x:=fun x h3=>by
   induction h3 with
   | refl=>exact ⟨h1,hY.un j0 (List.mem_range.2 h1) h2⟩
   | step _ a b ih=>
    have hr:=(M.prs.rc _ _).2 b
    exact ⟨M.lt hr,hY.st _ _ _ (List.mem_range.2 ih.1) (List.mem_range.2 (M.lt hr)) ih.2 a hr⟩
  exact (this j h3).2) m3 t3).2 zx
 have cnt1:((List.range L.length).filter S).length=szM (List.range L.length) rowS+1:=by
  have p:((List.range L.length).filter S).Perm (j ::(List.range L.length).filter fun i=>(rowS i).isSome):=by
   refine (List.perm_ext_iff_of_nodup (nodup_fil List.nodup_range) (List.nodup_cons.2 ⟨fun g=>?_,nodup_fil List.nodup_range⟩)).2 fun r=>?_
   ·have:=(List.mem_filter.1 g).2
    rw [<- hr] at this
    simp only [hn] at this
    split at this <;> cases this
   ·rw [List.mem_filter,List.mem_cons,List.mem_filter]
    constructor
    ·rintro ⟨h1,h2⟩
     by_cases ej:r=j
     ·exact .inl ej
     ·refine .inr ⟨h1,?_⟩
      rw [<- hr]
      simp only [if_pos h2]
      obtain ⟨k,hk⟩:=rch_some h hn (rch_iff.1 (by rw [hS];exact h2)) ej
      rw [hk];rfl
    ·rintro (rfl | ⟨h1,h2⟩)
     ·exact ⟨List.mem_range.2 hj,by rw [<- hS];exact rch_iff.2 .refl⟩
     ·refine ⟨h1,?_⟩
      rw [<- hr] at h2
      simp only at h2
      split at h2
      ·assumption
      ·cases h2
  have:=p.length_eq
  rw [List.length_cons] at this
  unfold szM
  exact this
 have cnt2:((List.range L.length).filter S).length=(((List.range L.length).erase x).filter S).length+1:=by
  have p:((List.range L.length).filter S).Perm (x ::((List.range L.length).erase x).filter S):=by
   refine (List.perm_ext_iff_of_nodup (nodup_fil List.nodup_range) (List.nodup_cons.2 ⟨fun g=>?_,nodup_fil (List.nodup_range.erase x)⟩)).2 fun r=>?_
   ·exact (er x (List.mem_filter.1 g).1).2 rfl
   ·rw [List.mem_filter,List.mem_cons,List.mem_filter,List.nodup_range.mem_erase_iff]
    constructor
    ·rintro ⟨h1,h2⟩
     by_cases ex:r=x
     ·exact .inl ex
     ·exact .inr ⟨⟨ex,h1⟩,h2⟩
    ·rintro (rfl | ⟨⟨h0,h1⟩,h2⟩)
     ·exact ⟨List.mem_range.2 xl,hx⟩
     ·exact ⟨h1,h2⟩
  have:=p.length_eq
  rwa [List.length_cons] at this
 have all2:∀ r,S r=true->r≠x->(row2 r).isSome=true:=fun r h1 h2=>by
  have sub:∀ a,(row2 a).isSome=true->S a=true:=fun a ha=>by
   obtain ⟨k,hk⟩:=Option.isSome_iff_exists.1 ha
   have:=M2.prs.inc a k hk
   rw [msk_ef] at this
   split at this
   ·rename_i c
    simp at c
    exact c.1
   ·cases this
  refine fil_eq (p:=fun a=>(row2 a).isSome) (q:=S) sub (l:=(List.range L.length).erase x) ?_ r ((List.nodup_range.mem_erase_iff).2 ⟨h2,List.mem_range.2 (lt r h1)⟩) h1
  unfold szM at e cnt1
  omega
 have i0:0<ix.length:=List.length_pos_iff.2 hne
 have hR2:Rws (ix.map (gd L)) C:=fun r hr=>by
  have hr2:r<ix.length:=by simpa using hr
  rw [gd_map hr2]
  exact hR _ (lt _ (hix _ (gd_mem hr2)))
 have val:∀ i,i<ix.length->∃ k,row2 (gd ix i)=some k:=fun i hi=>by
  have hg:=gd_mem hi
  exact Option.isSome_iff_exists.1 (all2 _ (hix _ hg) fun g=>hxi (g ▸ hg))
 refine no_od hR2 (fun i=>(row2 (gd ix i)).getD 0) (fun i hi=>?_) (fun a b ha hb e=>?_) 0 (hT 0 i0)
 ·have hi2:i<ix.length:=by simpa using hi
  obtain ⟨k,hk⟩:=val i hi2
  have:=M2.prs.inc _ k hk
  rw [msk_ef] at this
  split at this
  ·unfold Ef
   rw [gd_map hi2,hk]
   exact this
  ·cases this
 ·have ha2:a<ix.length:=by simpa using ha
  have hb2:b<ix.length:=by simpa using hb
  obtain ⟨k,hk⟩:=val a ha2
  obtain ⟨k2,hk2⟩:=val b hb2
  rw [hk,hk2] at e
  simp only [Option.getD_some] at e
  subst e
  have g:=(M2.prs.rc _ _).1 hk
  rw [(M2.prs.rc _ _).1 hk2] at g
  have g:=Option.some.inj g
  rw [gd_lt ha2,gd_lt hb2] at g
  rcases Nat.lt_trichotomy a b with c | c | c
  ·exact absurd g.symm (List.pairwise_iff_getElem.1 nd a b ha2 hb2 c)
  ·exact c
  ·exact absurd g (List.pairwise_iff_getElem.1 nd b a hb2 ha2 c)
end
end
end Go.Proofs.Ytbjnmmgnonldnaa.E
namespace Go.Proofs.Ytbjnmmgnonldnaa.E
open Go Go.RowKit
theorem msk_ext {L:List (List Int)} {S T:Nat->Bool} (h:∀ i,i<L.length->S i=T i):msk L S=msk L T:=list_gd_ext (by rw [msk_len,msk_len]) fun k hk=>by
 rw [msk_len] at hk
 rw [msk_gd,msk_gd,h k hk]
def ci (l:List Nat):List Int:=l.map fun (i:Nat)=>(i:Int)
theorem ci_pick {m:api_Incidence} {l:List Nat} :pick m (ci l)=l.map (gd m.E):=by
 unfold pick ci
 rw [List.map_map]
 exact List.map_congr_left fun i _=>gi_gd _ _
theorem ci_mem {l:List Nat} {x:Nat} :(x:Int) ∈ ci l ↔ x ∈ l:=by
 unfold ci
 rw [List.mem_map]
 exact ⟨fun ⟨i,hi,e⟩=>by rwa [<- Int.ofNat.inj e],fun h=>⟨x,h,rfl⟩⟩
theorem ci_len {l:List Nat} :(ci l).length=l.length:=by unfold ci;rw [List.length_map]
theorem ci_tn {n:Int} {l:List Int} (h:Se n l):ci (l.map Int.toNat)=l:=by
 unfold ci
 rw [List.map_map]
 have:∀ x,x ∈ l->((fun (i:Nat)=>(i:Int)) ∘ Int.toNat) x=id x:=fun x hx=>by
  have:=h.lt x hx
  show ((x.toNat:Nat):Int)=x
  omega
 rw [List.map_congr_left this,List.map_id]
theorem tn_nd {n:Int} {l:List Int} (h:Se n l):(l.map Int.toNat).Nodup:=nodup_map h.nd fun a b ha hb e=>by
 have:=h.lt a ha
 have:=h.lt b hb
 omega
theorem sel_tst {m:api_Incidence} {C:Nat} (hR:Rws m.E C) (hC:C<=64) (hl:m.E.length<=64) {ix:List Nat} (hix:∀ i,i ∈ ix->i<m.E.length) (nd:ix.Nodup) (hil:ix.length<=64):Tst m (ci ix) ↔ ix≠[]/\∀ i,i ∈ ix->Od (msk m.E fun i=>decide (i ∈ ix)) i:=by
 unfold Tst
 rw [ci_pick,ci_len]
 refine and_congr ⟨fun h e=>h (by rw [e];rfl),fun h e=>h (List.map_eq_nil_iff.1 e)⟩ ⟨fun h i hi=>?_,fun h t ht=>(sel_od hR hC hl hix nd hil ht).2 (h _ (gd_mem ht))⟩
 obtain ⟨t,ht,rfl⟩:=List.mem_iff_getElem.1 hi
 rw [<- gd_lt ht]
 exact (sel_od hR hC hl hix nd hil ht).1 (h t ht)
theorem fil_rng {n:Nat} {S:Nat->Bool} (h:∀ i,S i=true->i<n) {i:Nat} :i ∈ (List.range n).filter S ↔ S i=true:=by
 rw [List.mem_filter,List.mem_range]
 exact ⟨fun g=>g.2,fun g=>⟨h i g,g⟩⟩
theorem rch_tst {m:api_Incidence} {C:Nat} (hR:Rws m.E C) (hC:C<=64) (hl:m.E.length<=64) {row col:Nat->Option Nat} (h:Mch (Ef m.E) m.E.length row col) {j:Nat} (hj:j<m.E.length) (hn:row j=none):Tst m (ci ((List.range m.E.length).filter (rch m.E col j))):=by
 have lt:∀ i,rch m.E col j i=true->i<m.E.length:=fun i hi=>rch_lt h hj (rch_iff.1 hi)
 have ll:=List.length_filter_le (rch m.E col j) (List.range m.E.length)
 rw [List.length_range] at ll
 rw [sel_tst hR hC hl (fun i hi=>List.mem_range.1 (List.mem_filter.1 hi).1) (nodup_fil List.nodup_range) (by omega)]
 refine ⟨fun e=>?_,fun i hi=>?_⟩
 ·have:j ∈ (List.range m.E.length).filter (rch m.E col j):=(fil_rng lt).2 (rch_iff.2 .refl)
  rw [e] at this;cases this
 ·have:=rch_od hR h hj hn ((fil_rng lt).1 hi)
  rwa [msk_ext (T:=rch m.E col j) fun i _=>by rw [Bool.eq_iff_iff,decide_eq_true_iff];exact fil_rng lt]
theorem tst_od {m:api_Incidence} {C:Nat} (hR:Rws m.E C) (hC:C<=64) (hl:m.E.length<=64) {c:List Int} (hc:Se m.E.length c) (ht:Tst m c) {x:Nat} (hx:(x:Int) ∈ c):Od m.E x:=by
 have e:=ci_tn hc
 have lt:∀ i,i ∈ c.map Int.toNat->i<m.E.length:=fun i hi=>by
  rw [<- ci_mem,e] at hi
  have:=hc.lt _ hi
  omega
 have ll:=hc.len
 rw [<- e,sel_tst hR hC hl lt (tn_nd hc) (by rw [List.length_map];omega)] at ht
 have:=ht.2 x (by rwa [<- ci_mem,e])
 rw [<- msk_true (L:=m.E)]
 exact mono_od hR hC hl (fun _ _=>rfl) (decide_eq_true (by rwa [<- ci_mem,e])) this
theorem od_lea {m:api_Incidence} {C:Nat} (hR:Rws m.E C) (hC:C<=64) (hl:m.E.length<=64) {x:Nat} (hx:Od m.E x):∃ c,Lea m ((List.range m.E.length).map fun (i:Nat)=>(i:Int)) c/\(x:Int) ∈ c:=by
 obtain ⟨row,col,M⟩:=mch_ex hR hC hl
 obtain ⟨j,hj,hn,hz⟩:=(Od.iff hR M).2 hx
 have lt:∀ i,rch m.E col j i=true->i<m.E.length:=fun i hi=>rch_lt M hj (rch_iff.1 hi)
 have ss:(ci ((List.range m.E.length).filter (rch m.E col j))).Sublist ((List.range m.E.length).map fun (i:Nat)=>(i:Int)):=List.filter_sublist.map _
 refine ⟨_,⟨ss,rch_tst hR hC hl M hj hn,fun o ho hT hs=>?_⟩,ci_mem.2 ((fil_rng lt).2 (rch_iff.2 hz))⟩
 have so:=(Se.all _).sub ho
 have sc:=(Se.all _).sub ss
 refine so.ext sc fun y=>⟨fun hy=>hs hy,fun hy=>Classical.byContradiction fun hn'=>?_⟩
 have yl:=sc.lt y hy
 have ey:y=(y.toNat:Nat):=by omega
 rw [ey,ci_mem,fil_rng lt] at hy
 have eo:=ci_tn so
 refine rch_least hR hC hl M hj hn (ix:=o.map Int.toNat) (tn_nd so) (fun e=>hT.1 (List.map_eq_nil_iff.1 e)) (fun i hi=>?_) hy (fun g=>hn' ?_) ?_
 ·rw [<- ci_mem,eo] at hi
  exact (fil_rng lt).1 (ci_mem.1 (hs hi))
 ·rw [<- ci_mem,eo] at g
  rwa [ey]
 ·have:=hT.2
  rw [<- eo,ci_pick,ci_len] at this
  exact this
theorem lea_one {m:api_Incidence} {C:Nat} (hR:Rws m.E C) (hC:C<=64) (hl:m.E.length<=64) {c:List Int} (hc:Lea m ((List.range m.E.length).map fun (i:Nat)=>(i:Int)) c) :
  (∀ t,t<c.length->Od (pick m c) t)/\∃ n,(∀ k,k ∈ List.range C->True)/\c.length=n+1/\∀ p:Nat->Bool,(∀ k,p k=true ↔ Oc (pick m c) k)->((List.range C).filter p).length=n:=by
 classical
 refine ⟨hc.2.1.2,?_⟩
 have sc:=(Se.all _).sub hc.1
 have ec:=ci_tn sc
 have cl:=sc.len
 have c0:0<c.length:=List.length_pos_iff.2 hc.2.1.1
 generalize hq:pick m c=L
 have hL:L.length=c.length:=by rw [<- hq,pick_len]
 have gL:∀ t,t<c.length->gd L t=gd m.E (gd c t).toNat:=fun t ht=>by
  rw [<- hq,pick_gd ht];rfl
 have hRL:Rws L C:=fun r hr=>by
  rw [hL] at hr
  rw [gL r hr]
  have:=sc.lt _ (gd_mem hr)
  exact hR _ (by omega)
 obtain ⟨row,col,M⟩:=mch_ex hRL hC (by omega)
 have z:∀ t,t<c.length->Zr (Ef L) L.length row col t:=fun t ht=>(Od.iff hRL M).2 (by rw [<- hq];exact hc.2.1.2 t ht)
 obtain ⟨j,hj,hn,_⟩:=z 0 c0
 have lt:∀ i,rch L col j i=true->i<L.length:=fun i hi=>rch_lt M hj (rch_iff.1 hi)
 let m2:api_Incidence:=⟨L.length,C,L⟩
 have T2:=rch_tst (m:=m2) hRL hC (by show L.length<=64;omega) M hj hn
 have ixl:∀ i,i ∈ (List.range L.length).filter (rch L col j)->i<c.length:=fun i hi=>by
  have:=List.mem_range.1 (List.mem_filter.1 hi).1
  omega
 have key:((List.range L.length).filter (rch L col j)).map (gd c)=c:=by
  refine hc.2.2 _ ?_ ?_ fun x hx=>?_
  ·refine (List.Sublist.trans ?_ hc.1)
   have:(List.range c.length).map (gd c)=c:=list_gd_ext (by simp) fun k hk=>by
    have hk:k<c.length:=by simpa using hk
    rw [gd_map (by simpa using hk),gd_lt (l:=List.range c.length) (by simpa using hk),List.getElem_range]
   rw [<- hL] at this
   have s:(((List.range L.length).filter (rch L col j)).map (gd c)).Sublist ((List.range L.length).map (gd c)):=List.filter_sublist.map _
   rwa [this] at s
  ·have e:pick m (((List.range L.length).filter (rch L col j)).map (gd c))=pick m2 (ci ((List.range L.length).filter (rch L col j))):=by
    rw [ci_pick]
    unfold pick
    rw [List.map_map]
    refine List.map_congr_left fun i hi=>?_
    exact (gL i (ixl i hi)).symm
   unfold Tst at T2 |-
   rw [e,List.length_map]
   rw [ci_len] at T2
   refine ⟨fun g=>T2.1 ?_,T2.2⟩
   rw [List.map_eq_nil_iff.1 g];rfl
  ·obtain ⟨i,hi,rfl⟩:=List.mem_map.1 hx
   exact gd_mem (ixl i hi)
 have all:∀ t,t<L.length->rch L col j t=true:=by
  have:=congrArg List.length key
  rw [List.length_map,<- hL] at this
  exact fil_all.1 this
 have row0:∀ t,t<L.length->t≠j->∃ k,row t=some k:=fun t ht ne=>rch_some M hn (rch_iff.1 (all t ht)) ne
 refine ⟨L.length - 1,fun _ _=>trivial,by omega,fun p hp=>?_⟩
 have perm:((List.range C).filter p).Perm (((List.range L.length).erase j).map fun t=>(row t).getD 0):=by
  have er:∀ r,r ∈ (List.range L.length).erase j ↔ r<L.length/\r≠j:=fun r=>by
   rw [List.nodup_range.mem_erase_iff,List.mem_range]
   exact ⟨fun h=>⟨h.2,h.1⟩,fun h=>⟨h.2,h.1⟩⟩
  refine (List.perm_ext_iff_of_nodup (nodup_fil List.nodup_range) (nodup_map (List.nodup_range.erase j) fun a b ha hb e=>?_)).2 fun k=>?_
  ·obtain ⟨ka,ga⟩:=row0 a ((er a).1 ha).1 ((er a).1 ha).2
   obtain ⟨kb,gb⟩:=row0 b ((er b).1 hb).1 ((er b).1 hb).2
   rw [ga,gb] at e
   have e:ka=kb:=e
   subst e
   have h1:=(M.prs.rc _ _).1 ga
   rw [(M.prs.rc _ _).1 gb] at h1
   exact (Option.some.inj h1).symm
  ·rw [List.mem_filter,List.mem_range,hp,List.mem_map]
   constructor
   ·rintro ⟨k1,k2⟩
    obtain ⟨r,r1,r2⟩:=M.zc ((Oc.iff hRL M).2 k2)
    have r3:=(M.prs.rc r k).2 r1
    exact ⟨r,(er r).2 ⟨M.zlt r2,fun e=>by rw [e,hn] at r3;cases r3⟩,by rw [r3];rfl⟩
   ·rintro ⟨r,r1,rfl⟩
    obtain ⟨r2,r3⟩:=(er r).1 r1
    obtain ⟨k,hk⟩:=row0 r r2 r3
    rw [hk]
    have he:=M.prs.inc r k hk
    exact ⟨(hRL.lt he).1,(Oc.iff hRL M).1 ⟨r,z r (by omega),he⟩⟩
 rw [perm.length_eq,List.length_map,List.length_erase_of_mem (List.mem_range.2 hj),List.length_range]
end Go.Proofs.Ytbjnmmgnonldnaa.E
namespace Go.Proofs.Ytbjnmmgnonldnaa.E
open Go Go.RowKit
open Classical in
noncomputable def teV (d:api_Diag) (l:List (List Int)) (e:Int):Int:=if e≠0 then e else if 200<(l.length:Int) then 3 else if ∀ i,i<l.length->Asc (gd l i) d.M.Rows then 0 else 1
theorem fault_tests_run {d:api_Diag} {l:List (List Int)} {Q:Int->Prop} (H:∀ e,DiagR d e->Q (teV d l e)):(fault_tests.f d l).run Q:=by
 unfold fault_tests.f
 refine W.bd (fault_Validate_run fun e he=>?_)
 have H:=H e he
 unfold teV at H
 refine W.run_if (fun c=>by rw [if_pos c] at H;exact H) fun c=>?_
 rw [if_neg c] at H
 refine W.run_if (fun c2=>by rw [if_pos c2] at H;exact H) fun c2=>?_
 rw [if_neg c2] at H
 refine W.loop_c (fun p=>∃ i:Nat,p=i/\i<=l.length/\∀ j,j<i->Asc (gd l j) d.M.Rows) (fun p=>l.length - p.toNat) ⟨0,rfl,Nat.zero_le _,fun j hj=>by omega⟩ ?_
 rintro _ P ⟨i,rfl,hi,hr⟩ hgo hbrk hout
 unfold fault_tests.l1
 simp only [gi_gd]
 refine W.run_if (fun c3=>W.req_i (by omega) (W.bd (fault_isSet_run (fun g=>W.run_if (fun _=>hgo _ ⟨i+1,by simp,by omega,fun j hj=>?_⟩ (by simp;omega)) fun c=>absurd rfl c) fun g=>W.run_if (fun c=>by cases c) fun _=>hout _ ?_))) fun c3=>hbrk _ ?_
 ·by_cases e:j=i
  ·rw [e];exact g
  ·exact hr j (by omega)
 ·rw [if_neg fun h=>g (h i (by omega))] at H;exact H
 ·obtain rfl:i=l.length:=by omega
  unfold fault_tests.j1
  rw [if_pos hr] at H;exact H
open Classical in
noncomputable def mts (f t:List Int):Bool:=decide (∃ x,x ∈ f/\x ∈ t)
noncomputable def sgL (d:api_Diag) (l:List (List Int)):List (List Bool):=d.Faults.map fun f=>l.map fun t=>mts f t
noncomputable def sgV (d:api_Diag) (l:List (List Int)) (e:Int):List (List Bool)×Int:=if teV d l e≠0 then ([],teV d l e) else (sgL d l,0)
theorem mts_of {f t:List Int} {b:Bool} (h:b=true ↔ ∃ x,x ∈ f/\x ∈ t):b=mts f t:=by
 classical
 unfold mts;rw [Bool.eq_iff_iff,h,decide_eq_true_iff]
theorem teV_ok {d:api_Diag} {l:List (List Int)} {e:Int} (h:teV d l e=0):e=0/\l.length<=200/\∀ i,i<l.length->Asc (gd l i) d.M.Rows:=by
 unfold teV at h
 split at h
 ·rename_i c;exact absurd h c
 ·rename_i c
  split at h
  ·omega
  ·split at h
   ·rename_i a;exact ⟨by omega,by omega,a⟩
   ·omega
theorem fault_Signature_run {d:api_Diag} {l:List (List Int)} {Q:List (List Bool)×Int->Prop} (H:∀ e,DiagR d e->Q (sgV d l e)):(fault_Signature.f d l).run Q:=by
 unfold fault_Signature.f
 refine W.bd (fault_tests_run fun e he=>?_)
 have H:=H e he
 unfold sgV at H
 refine W.run_if (fun c=>by rw [if_pos c] at H;exact H) fun c=>?_
 rw [if_neg c] at H
 have ok:=teV_ok (Decidable.not_not.1 c)
 have hf:=(he.ok ok.1).f
 refine W.loop_c (fun s:List (List Bool)×Int=>∃ i:Nat,s.2=i/\i<=d.Faults.length/\s.1=(d.Faults.take i).map fun f=>l.map fun t=>mts f t) (fun s=>d.Faults.length - s.2.toNat) ⟨0,rfl,Nat.zero_le _,rfl⟩ ?_
 rintro ⟨_,_⟩ P ⟨i,rfl,hi,rfl⟩ hgo hbrk hout
 simp only at hgo hbrk |-
 unfold fault_Signature.l1
 refine W.run_if (fun c3=>W.req_i (by omega) ?_) fun c3=>hbrk _ ?_
 ·refine W.loop_c (fun s:List Bool×Int=>∃ j:Nat,s.2=j/\j<=l.length/\s.1=(l.take j).map fun t=>mts (gd d.Faults i) t) (fun s=>l.length - s.2.toNat) ⟨0,rfl,Nat.zero_le _,rfl⟩ ?_
  rintro ⟨_,_⟩ P2 ⟨j,rfl,hj,rfl⟩ hgo2 hbrk2 hout2
  simp only at hgo2 hbrk2 |-
  unfold fault_Signature.l2
  simp only [gi_gd]
  have tl:(l.take j).length<=j:=List.length_take_le ..
  refine W.run_if (fun c4=>W.req_i (by omega) (W.bd (acts_run fun b hb=>W.req_i (by rw [List.length_map];omega) (hgo2 _ ⟨j+1,by simp,by omega,?_⟩ (by simp;omega))))) fun c4=>hbrk2 _ ?_
  ·show _ ++ _=_
   rw [map_take_succ (by omega),mts_of hb]
  ·obtain rfl:j=l.length:=by omega
   unfold fault_Signature.j3 fault_Signature.j2
   have t2:(d.Faults.take i).length<=i:=List.length_take_le ..
   refine W.req_i (by rw [List.length_map];omega) (hgo _ ⟨i+1,by simp,by omega,?_⟩ (by simp;omega))
   show _ ++ _=_
   rw [List.take_length,map_take_succ (by omega)]
 ·obtain rfl:i=d.Faults.length:=by omega
  unfold fault_Signature.j1
  rw [List.take_length]
  exact H
theorem sub_ok {d:api_Diag} (hk:DiagOk d) {c:List Int} (hc:Se d.M.Rows c):DiagOk ⟨⟨(c.length:Int),d.M.Cols,pick d.M c⟩,[]⟩:=by
 have hm:=hk.m
 have r0:=hm.r0
 have r1:=hk.r
 have c0:=hm.c0
 have c1:=hm.c1
 have cl:c.length<=d.M.Rows.toNat:=Se.len (by rwa [show ((d.M.Rows.toNat:Nat):Int)=d.M.Rows by omega])
 obtain ⟨C,hC⟩:∃ C:Nat,d.M.Cols=C:=⟨d.M.Cols.toNat,by omega⟩
 have rw_:=pick_rws hm hC hc
 refine ⟨⟨by show (0:Int)<=c.length;omega,by show (c.length:Int)<=64;omega,c0,c1,by show ((pick d.M c).length:Int)=c.length;rw [pick_len],fun r hr=>?_⟩,by show (c.length:Int)<=10;omega,by simp,fun i hi=>absurd hi (Nat.not_lt_zero _)⟩
 have:=rw_ r hr
 show Asc _ d.M.Cols
 rwa [hC]
theorem gd_row {d:api_Diag} {l:List (List Int)} {i:Nat} (hi:i<d.Faults.length):gd (sgL d l) i=l.map fun t=>mts (gd d.Faults i) t:=gd_map hi
theorem FaultLeast_run {d:api_Diag} :(law28_FaultLeast.f d).run (· =true):=by
 classical
 unfold law28_FaultLeast.f
 refine W.bd (fault_Tests_run fun e h1=>W.bd (fault_Detected_run fun e2 h2=>W.bd (fault_Signature_run fun e3 h3=>?_)))
 obtain rfl:=h1.uniq h2
 obtain rfl:=h1.uniq h3
 clear h2 h3
 by_cases e0:e≠0
 ·rw [show tsV d 200 e=([],false,e) by unfold tsV;rw [if_pos e0]]
  exact W.run_if (fun _=>W.bd (known_run (by rfl))) fun c=>absurd e0 c
 have t0:tsV d 200 e=if (200:Int)<((lst d.M ((List.range d.M.Rows.toNat).map fun (i:Nat)=>(i:Int))).length:Int) then ((lst d.M ((List.range d.M.Rows.toNat).map fun (i:Nat)=>(i:Int))).take (200:Int).toNat,true,0) else (lst d.M ((List.range d.M.Rows.toNat).map fun (i:Nat)=>(i:Int)),false,0):=by
  unfold tsV
  rw [if_neg e0,if_neg (show ¬ ((200:Int)<1\/(200:Int)<200) by omega)]
 have d0:dtV d e=(d.Faults.map fun f=>decide (Act d.M.E f []),0):=by unfold dtV;rw [if_neg e0]
 have hk:=h1.ok (by omega)
 have hm:=hk.m
 have r0:=hm.r0
 have r1:=hk.r
 have c0:=hm.c0
 have c1:=hm.c1
 have hl:=hm.len
 obtain ⟨C,hC⟩:∃ C:Nat,d.M.Cols=C:=⟨d.M.Cols.toNat,by omega⟩
 have hR:Rws d.M.E C:=fun r hr=>by have:=hm.asc r hr;rwa [hC] at this
 rw [show d.M.Rows.toNat=d.M.E.length by omega] at t0
 have s10:Se 10 ((List.range d.M.E.length).map fun (i:Nat)=>(i:Int)):=⟨(Se.all _).so,fun x hx=>by have:=(Se.all _).lt x hx;omega⟩
 by_cases big:(200:Int)<(lst d.M ((List.range d.M.E.length).map fun (i:Nat)=>(i:Int))).length
 ·rw [if_pos big] at t0
  rw [t0]
  exact W.run_if (fun c=>absurd rfl c) fun _=>W.run_if (fun _=>W.bd (known_run (by rfl))) fun c=>absurd rfl c
 rw [if_neg big] at t0
 generalize hT:lst d.M ((List.range d.M.E.length).map fun (i:Nat)=>(i:Int))=T at big t0
 have mem:∀ c,c ∈ T ↔ Lea d.M ((List.range d.M.E.length).map fun (i:Nat)=>(i:Int)) c:=fun c=>by rw [<- hT];exact lst_mem s10
 have sT:∀ c,c ∈ T->Se d.M.E.length c:=fun c hc=>(Se.all _).sub ((mem c).1 hc).1
 have te:teV d T e=0:=by
  unfold teV
  rw [if_neg e0,if_neg (by omega),if_pos]
  intro i hi
  have:=(sT _ (gd_mem hi)).asc
  rwa [hl] at this
 rw [t0,d0]
 show W.run _ _
 rw [show sgV d T e=(sgL d T,0) by unfold sgV;rw [if_neg fun h=>h te]]
 refine W.run_if (fun c=>absurd rfl c) fun _=>W.run_if (fun c=>by cases c) fun _=>W.run_if (fun c=>absurd rfl c) fun _=>W.run_if (fun c=>absurd rfl c) fun _=>W.run_if (fun c=>absurd (by unfold sgL;simp) c) fun _=>?_
 refine W.loop_c (fun p=>∃ i:Nat,p=i/\i<=T.length) (fun p=>T.length - p.toNat) ⟨0,rfl,Nat.zero_le _⟩ ?_
 rintro _ P ⟨i,rfl,hi⟩ hgo hbrk hout
 unfold law28_FaultLeast.l3
 refine W.run_if (fun c=>W.req_i (by simp only at c |-;omega) ?_) fun c=>hbrk _ ?_
 ·simp only at c
  have iT:i<T.length:=by omega
  have hc:=(mem _).1 (gd_mem iT)
  have hs:=sT _ (gd_mem iT)
  obtain ⟨c,hcd⟩:∃ c,gd T i=c:=⟨_,rfl⟩
  rw [hcd] at hc hs
  have cl:=hs.len
  refine W.loop_c (fun s:Int×Int×List (List Int)×Int=>∃ j:Nat,s.2.2.2=j/\j<=c.length/\s.1=c.length/\s.2.1=d.M.Cols/\s.2.2.1=(c.take j).map fun x=>gi d.M.E x) (fun s=>c.length - s.2.2.2.toNat) ⟨0,rfl,Nat.zero_le _,by simp only [gi_gd,hcd],rfl,rfl⟩ ?_
  rintro ⟨_,_,_,_⟩ P2 ⟨j,rfl,hj,rfl,rfl,rfl⟩ hgo2 hbrk2 hout2
  simp only at hgo2 hbrk2 |-
  unfold law28_FaultLeast.l4
  simp only [gi_gd,hcd]
  have tl:(c.take j).length<=j:=List.length_take_le ..
  refine W.req_i (by omega) (W.run_if (fun c2=>?_) fun c2=>hbrk2 _ ?_)
  ·have m:=hs.lt _ (gd_mem (show j<c.length by omega))
   refine W.req_i (by omega) (W.req_i (by omega) (W.req_i (by omega) (W.req_i (by rw [List.length_map];omega) (hgo2 _ ⟨j+1,by simp,by omega,rfl,rfl,?_⟩ (by simp;omega)))))
   show _ ++ _=_
   rw [map_take_succ (by omega)]
  obtain rfl:j=c.length:=by omega
  rw [List.take_length]
  unfold law28_FaultLeast.j7 law28_FaultLeast.j6
  have sok:=sub_ok hk (c:=c) (by rwa [hl] at hs)
  show W.run (W.bind (fault_Redundant.f ⟨⟨(c.length:Int),d.M.Cols,pick d.M c⟩,[]⟩) _) _
  refine W.bd (fault_Redundant_run2 fun e4 h4=>?_)
  obtain rfl:e4=0:=h4.uniq (.inl ⟨rfl,sok⟩)
  obtain ⟨g1,n,_,g2,g3⟩:=lea_one hR (by omega) (by omega) hc
  have r1:(rdV ⟨⟨(c.length:Int),d.M.Cols,pick d.M c⟩,[]⟩ 0).2.2=0:=by unfold rdV;rw [if_neg (by simp)]
  have r2:(rdV ⟨⟨(c.length:Int),d.M.Cols,pick d.M c⟩,[]⟩ 0).1.length=c.length:=by
   unfold rdV
   rw [if_neg (by simp)]
   show (List.map _ _).length=_
   rw [List.length_map]
   exact ((fil_all (n:=(pick d.M c).length) (p:=fun t=>decide (Od (pick d.M c) t))).2 fun t ht=>decide_eq_true (g1 t (by rwa [pick_len] at ht))).trans pick_len
  have r3:(rdV ⟨⟨(c.length:Int),d.M.Cols,pick d.M c⟩,[]⟩ 0).2.1=1:=by
   have a:=r2
   unfold rdV at a |-
   rw [if_neg (by simp)] at a |-
   show ((List.filter _ _).length:Int) - _=1
   have b:=g3 (fun k=>decide (Oc (pick d.M c) k)) fun k=>decide_eq_true_iff
   have a:(List.map _ _).length=c.length:=a
   rw [List.length_map] at a
   show (((List.range (pick d.M c).length).filter fun t=>decide (Od (pick d.M c) t)).length:Int) - (((List.range d.M.Cols.toNat).filter fun k=>decide (Oc (pick d.M c) k)).length:Int)=1
   rw [hC,Int.toNat_natCast,b]
   have a:((List.range (pick d.M c).length).filter fun t=>decide (Od (pick d.M c) t)).length=c.length:=a
   omega
  refine W.run_if (fun c=>absurd r1 c) fun _=>W.run_if (fun c=>absurd r3 c) fun _=>W.req_i (by show _/\(i:Int)<T.length;omega) (W.run_if (fun c=>absurd (by simp only [gi_gd,hcd];omega) c) fun _=>hgo _ ⟨i+1,by simp,by omega⟩ (by simp;omega))
 clear hgo hbrk hout
 unfold law28_FaultLeast.j1
 have act:∀ f,Act d.M.E f [] ↔ ∃ c,c ∈ T/\∃ x,x ∈ f/\x ∈ c:=fun f=>by
  unfold Act
  rw [keep_all,map_all,List.length_map,List.length_range]
  constructor
  ·rintro ⟨t,ht,ho,hf⟩
   obtain ⟨c,hc,hx⟩:=od_lea hR (by omega) (by omega) ho
   refine ⟨c,(mem c).2 hc,_,hf,?_⟩
   rwa [gd_map (by simpa using ht),gd_lt (l:=List.range _) (by simpa using ht),List.getElem_range]
  ·rintro ⟨c,hc,x,hx,hxc⟩
   have:=(sT c hc).lt x hxc
   have ex:x=(x.toNat:Nat):=by omega
   refine ⟨x.toNat,by omega,tst_od hR (by omega) (by omega) (sT c hc) ((mem c).1 hc).2.1 (by rwa [<- ex]),?_⟩
   rw [gd_map (by simp;omega),gd_lt (l:=List.range _) (by simp;omega),List.getElem_range,<- ex]
   exact hx
 have dl:(d.Faults.map fun f=>decide (Act d.M.E f [])).length=d.Faults.length:=by rw [List.length_map]
 refine W.loop_c (fun p=>∃ i:Nat,p=i/\i<=d.Faults.length) (fun p=>d.Faults.length - p.toNat) ⟨0,rfl,Nat.zero_le _⟩ ?_
 rintro _ P ⟨i,rfl,hi⟩ hgo hbrk hout
 unfold law28_FaultLeast.l1
 simp only [dl]
 refine W.run_if (fun c=>?_) fun c=>hbrk _ ?_
 ·have iF:i<d.Faults.length:=by omega
  have sl:(sgL d T).length=d.Faults.length:=by unfold sgL;rw [List.length_map]
  have rl:(gd (sgL d T) i).length=T.length:=by rw [gd_row iF,List.length_map]
  refine W.loop_c (fun s:Bool×Int=>∃ j:Nat,s.2=j/\j<=T.length/\(s.1=true ↔ ∃ c,c ∈ T.take j/\∃ x,x ∈ gd d.Faults i/\x ∈ c)) (fun s=>T.length - s.2.toNat) ⟨0,rfl,Nat.zero_le _,by simp⟩ ?_
  rintro ⟨b,_⟩ P2 ⟨j,rfl,hj,hb⟩ hgo2 hbrk2 hout2
  simp only at hb hgo2 hbrk2 |-
  unfold law28_FaultLeast.l2 law28_FaultLeast.j5
  simp only [gi_gd]
  have tk:∀ h:j<T.length,(∃ c,c ∈ T.take (j+1)/\∃ x,x ∈ gd d.Faults i/\x ∈ c) ↔ (∃ c,c ∈ T.take j/\∃ x,x ∈ gd d.Faults i/\x ∈ c)\/∃ x,x ∈ gd d.Faults i/\x ∈ gd T j:=fun h=>by
   rw [List.take_add_one,List.getElem?_eq_getElem h,<- gd_lt h]
   constructor
   ·rintro ⟨c,hc,hx⟩
    rcases List.mem_append.1 hc with g | g
    ·exact .inl ⟨c,g,hx⟩
    ·rw [List.mem_singleton.1 g] at hx;exact .inr hx
   ·rintro (⟨c,hc,hx⟩ | hx)
    ·exact ⟨c,List.mem_append_left _ hc,hx⟩
    ·exact ⟨_,List.mem_append_right _ (List.mem_singleton.2 rfl),hx⟩
  refine W.req_i (by omega) (W.run_if (fun c2=>?_) fun c2=>hbrk2 _ ?_)
  ·simp only [rl] at c2
   have jT:j<T.length:=by omega
   refine W.run_if (fun c3=>hgo2 _ ⟨j+1,by simp,by omega,?_⟩ (by simp;omega)) fun c3=>W.req_i (by omega) (W.req_i (by simp only [rl];omega) (hgo2 _ ⟨j+1,by simp,by omega,?_⟩ (by simp;omega)))
   ·rw [tk jT]
    exact ⟨fun _=>.inl (hb.1 c3),fun _=>rfl⟩
   ·show gd _ j=true ↔ _
    rw [tk jT,gd_row iF,gd_map jT,<- hb]
    unfold mts
    rw [decide_eq_true_iff]
    exact ⟨.inr,fun g=>g.resolve_left c3⟩
  ·simp only [rl] at c2
   obtain rfl:j=T.length:=by omega
   unfold law28_FaultLeast.j4 law28_FaultLeast.j3
   simp only [gi_gd]
   rw [List.take_length] at hb
   refine W.req_i (by simp only [dl];omega) (W.run_if (fun _=>hgo _ ⟨i+1,by simp,by omega⟩ (by simp;omega)) fun c3=>absurd ?_ c3)
   rw [gd_map iF,beq_iff_eq,Bool.eq_iff_iff,hb,decide_eq_true_iff,act]
 ·unfold law28_FaultLeast.j2
  exact W.bd (known_run rfl)
end Go.Proofs.Ytbjnmmgnonldnaa.E
