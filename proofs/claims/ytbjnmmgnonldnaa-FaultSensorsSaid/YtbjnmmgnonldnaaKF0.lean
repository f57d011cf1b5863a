/- Joined. -/
import Derived.Test.YtbjnmmgnonldnaaKE0
import Derived.Test.YtbjnmmgnonldnaaKM0
import Derived.Test.YtbjnmmgnonldnaaKTF
set_option linter.unusedVariables false
set_option linter.unusedSimpArgs false
namespace Go.Proofs.Ytbjnmmgnonldnaa.E
structure Mt (inc:Nat->Nat->Prop) (rs:List Nat) (m:Nat->Option Nat):Prop where
 inc:∀ i k,i ∈ rs->m i=some k->inc i k
 inj:∀ i j k,i ∈ rs->j ∈ rs->m i=some k->m j=some k->i=j
def szM (rs:List Nat) (m:Nat->Option Nat):Nat:=(rs.filter fun i=>(m i).isSome).length
def cno (rs:List Nat) (R:Nat->Bool):Nat:=(rs.filter fun i=>!R i).length
structure Bar (inc:Nat->Nat->Prop) (rs:List Nat) (R:Nat->Bool) (S:List Nat):Prop where
 nd:S.Nodup
 nb:∀ i k,i ∈ rs->R i=true->inc i k->k ∈ S
theorem nodup_map {α β:Type} {f:α->β} :∀ {l:List α},l.Nodup->(∀ a b,a ∈ l->b ∈ l->f a=f b->a=b)->(l.map f).Nodup
 | [],_,_=>List.Pairwise.nil
 | a ::l,h,hi=>by
  have ⟨h1,h2⟩:=List.nodup_cons.1 h
  rw [List.map_cons,List.nodup_cons]
  refine ⟨fun hm=>?_,nodup_map h2 fun x y hx hy=>hi x y (List.mem_cons_of_mem _ hx) (List.mem_cons_of_mem _ hy)⟩
  obtain ⟨b,hb,e⟩:=List.mem_map.1 hm
  have:=hi b a (List.mem_cons_of_mem _ hb) (List.mem_cons_self ..) e
  exact h1 (this ▸ hb)
theorem nodup_fil {α:Type} {l:List α} {p:α->Bool} (h:l.Nodup):(l.filter p).Nodup:=List.Pairwise.filter p h
theorem fil_two {α:Type} (p q:α->Bool):∀ l:List α,(l.filter q).length=(l.filter fun i=>!p i && q i).length+(l.filter fun i=>p i && q i).length
 | []=>rfl
 | a ::l=>by
  have ih:=fil_two p q l
  simp only [List.filter_cons]
  cases hp:p a <;> cases hq:q a <;> simp <;> omega
theorem fil_le {α:Type} {p q:α->Bool} (h:∀ a,p a=true->q a=true):∀ l:List α,(l.filter p).length<=(l.filter q).length
 | []=>Nat.le_refl _
 | a ::l=>by
  have ih:=fil_le h l
  simp only [List.filter_cons]
  cases hp:p a
  ·cases hq:q a <;> simp <;> omega
  ·rw [h a hp];simp;exact ih
theorem fil_eq {α:Type} {p q:α->Bool} (h:∀ a,p a=true->q a=true):∀ {l:List α},(l.filter q).length<=(l.filter p).length->∀ a,a ∈ l->q a=true->p a=true
 | [],_,a,ha,_=>by cases ha
 | b ::l,hl,a,ha,hq=>by
  simp only [List.filter_cons] at hl
  cases hp:p b
  ·rw [hp] at hl
   have h1:=fil_le h l
   cases hqb:q b
   ·rw [hqb] at hl
    rcases List.mem_cons.1 ha with rfl | ha
    ·rw [hqb] at hq;cases hq
    ·exact fil_eq h (by simpa using hl) a ha hq
   ·rw [hqb] at hl
    simp at hl
    omega
  ·rw [hp,h b hp] at hl
   rcases List.mem_cons.1 ha with rfl | ha
   ·exact hp
   ·exact fil_eq h (by simpa using hl) a ha hq
section
variable {inc:Nat->Nat->Prop} {rs:List Nat} {m m':Nat->Option Nat} {R:Nat->Bool} {S:List Nat}
def colsM (rs:List Nat) (m:Nat->Option Nat) (R:Nat->Bool):List Nat:=(rs.filter fun i=>R i && (m i).isSome).map fun i=>(m i).getD 0
theorem colsM_mem {k:Nat} :k ∈ colsM rs m R ↔ ∃ i,i ∈ rs/\R i=true/\m i=some k:=by
 unfold colsM
 rw [List.mem_map]
 constructor
 ·rintro ⟨i,h,e⟩
  rw [List.mem_filter] at h
  obtain ⟨h1,h2⟩:=h
  cases hm:m i with
  | none=>rw [hm] at h2;simp at h2
  | some x=>rw [hm] at h2 e;simp at h2 e;exact ⟨i,h1,h2,by rw [hm,e]⟩
 ·rintro ⟨i,h1,h2,h3⟩
  exact ⟨i,List.mem_filter.2 ⟨h1,by rw [h2,h3];rfl⟩,by rw [h3];rfl⟩
theorem colsM_nd (hn:rs.Nodup) (h:Mt inc rs m):(colsM rs m R).Nodup:=by
 refine nodup_map (nodup_fil hn) fun a b ha hb e=>?_
 rw [List.mem_filter] at ha hb
 cases h1:m a with
 | none=>rw [h1] at ha;simp at ha
 | some x=>cases h2:m b with
  | none=>rw [h2] at hb;simp at hb
  | some y=>rw [h1,h2] at e;simp at e;exact h.inj a b x ha.1 hb.1 h1 (by rw [h2,e])
theorem Bar.sub (h:Bar inc rs R S) (hm:Mt inc rs m):colsM rs m R ⊆ S:=fun k hk=>by
 obtain ⟨i,h1,h2,h3⟩:=colsM_mem.1 hk
 exact h.nb i k h1 h2 (hm.inc i k h1 h3)
theorem szM_two:szM rs m=(rs.filter fun i=>!R i && (m i).isSome).length+(colsM rs m R).length:=by
 unfold szM colsM
 rw [List.length_map]
 exact fil_two R _ rs
theorem Bar.le (h:Bar inc rs R S) (hn:rs.Nodup) (hm:Mt inc rs m):szM rs m<=cno rs R+S.length:=by
 rw [szM_two (R:=R)]
 have h1:=(colsM_nd (R:=R) hn hm).length_le_of_subset (h.sub hm)
 have h2:(rs.filter fun i=>!R i && (m i).isSome).length<=cno rs R:=fil_le (fun a ha=>by
  rw [Bool.and_eq_true] at ha;exact ha.1) rs
 omega
structure Tight (inc:Nat->Nat->Prop) (rs:List Nat) (m:Nat->Option Nat) (R:Nat->Bool) (S:List Nat):Prop where
 bar:Bar inc rs R S
 un:∀ i,i ∈ rs->m i=none->R i=true
 all:∀ k,k ∈ S->∃ i,i ∈ rs/\R i=true/\m i=some k
theorem Tight.sz (h:Tight inc rs m R S) (hn:rs.Nodup) (hm:Mt inc rs m):szM rs m=cno rs R+S.length:=by
 have h0:=h.bar.le hn hm
 rw [szM_two (R:=R)] at h0 |-
 have h1:S.length<=(colsM rs m R).length:=h.bar.nd.length_le_of_subset fun k hk=>colsM_mem.2 (h.all k hk)
 have h2:cno rs R=(rs.filter fun i=>!R i && (m i).isSome).length:=by
  unfold cno
  congr 1
  refine List.filter_congr fun i hi=>?_
  cases hR:R i
  ·cases hx:m i with
   | none=>rw [h.un i hi hx] at hR;cases hR
   | some x=>rfl
  ·rfl
 omega
theorem Bar.tight (h:Bar inc rs R S) (hn:rs.Nodup) (hm:Mt inc rs m) (e:cno rs R+S.length<=szM rs m):Tight inc rs m R S:=by
 rw [szM_two (R:=R)] at e
 have h1:=(colsM_nd (R:=R) hn hm).length_le_of_subset (h.sub hm)
 have h2:(rs.filter fun i=>!R i && (m i).isSome).length<=cno rs R:=fil_le (fun a ha=>by
  rw [Bool.and_eq_true] at ha;exact ha.1) rs
 refine ⟨h,fun i hi hx=>?_,fun k hk=>?_⟩
 ·cases hR:R i
  ·have:=fil_eq (p:=fun i=>!R i && (m i).isSome) (q:=fun i=>!R i) (fun a ha=>by
    rw [Bool.and_eq_true] at ha;exact ha.1) (show (rs.filter fun i=>!R i).length<=_ by unfold cno at h2 e;omega) i hi (by rw [hR];rfl)
   rw [hx] at this
   simp at this
  ·rfl
 ·refine Classical.byContradiction fun c=>?_
  have hs:colsM rs m R ⊆ S.erase k:=fun x hx=>by
   rw [h.nd.mem_erase_iff]
   refine ⟨fun e=>?_,h.sub hm hx⟩
   subst e
   exact c (colsM_mem.1 hx)
  have h3:=(colsM_nd (R:=R) hn hm).length_le_of_subset hs
  rw [List.length_erase_of_mem hk] at h3
  have:0<S.length:=List.length_pos_of_mem hk
  omega
structure Clo (inc:Nat->Nat->Prop) (rs:List Nat) (m:Nat->Option Nat) (Z:Nat->Prop):Prop where
 un:∀ i,i ∈ rs->m i=none->Z i
 st:∀ i k j,i ∈ rs->j ∈ rs->Z i->inc i k->m j=some k->Z j
theorem Tight.clo (h:Tight inc rs m R S) (hm:Mt inc rs m):Clo inc rs m fun i=>R i=true:=
 ⟨h.un,fun i k j hi hj hR hk hx=>by
  obtain ⟨j',h1,h2,h3⟩:=h.all k (h.bar.nb i k hi hR hk)
  rw [hm.inj j j' k hj h1 hx h3];exact h2⟩
theorem szM_erase {i:Nat} (hn:rs.Nodup) (hi:i ∈ rs):cno (rs.erase i) R+(if R i=true then 0 else 1)=cno rs R:=by
 induction rs with
 | nil=>cases hi
 | cons a rs ih=>
  have ⟨h1,h2⟩:=List.nodup_cons.1 hn
  by_cases e:a=i
  ·subst e
   rw [List.erase_cons_head]
   unfold cno
   rw [List.filter_cons]
   cases hR:R a <;> simp
  ·have hi':i ∈ rs:=by
    rcases List.mem_cons.1 hi with h | h
    ·exact absurd h.symm e
    ·exact h
   rw [List.erase_cons_tail (by simpa using e)]
   have:=ih h2 hi'
   unfold cno at this |-
   rw [List.filter_cons,List.filter_cons]
   cases hR:R a <;> simp <;> omega
theorem out_iff {Z:Nat->Prop} {m':Nat->Option Nat} {R':Nat->Bool} {S':List Nat} {i:Nat} (hn:rs.Nodup) (hi:i ∈ rs) (hm:Mt inc rs m) (ht:Tight inc rs m R S) (hZ:Clo inc rs m Z) (least:∀ Y,Clo inc rs m Y->∀ j,j ∈ rs->Z j->Y j)
  (hm':Mt inc (rs.erase i) m') (ht':Tight inc (rs.erase i) m' R' S'):szM (rs.erase i) m'=szM rs m ↔ Z i:=by
 classical
 have hn':(rs.erase i).Nodup:=hn.erase i
 have hno:i ∉ rs.erase i:=fun h=>((hn.mem_erase_iff).1 h).1 rfl
 constructor
 ·intro e
  refine Classical.byContradiction fun c=>?_
  let RZ:Nat->Bool:=fun j=>decide (Z j)
  have hsub:∀ j,j ∈ rs->Z j->R j=true:=least _ (ht.clo hm)
  have hb:Bar inc rs RZ (colsM rs m RZ):=⟨colsM_nd hn hm,fun a k ha hR hk=>by
   have hza:Z a:=of_decide_eq_true hR
   obtain ⟨j,h1,h2,h3⟩:=ht.all k (ht.bar.nb a k ha (hsub a ha hza) hk)
   exact colsM_mem.2 ⟨j,h1,decide_eq_true (hZ.st a k j ha h1 hza hk h3),h3⟩⟩
  have htz:Tight inc rs m RZ (colsM rs m RZ):=⟨hb,fun a ha hx=>decide_eq_true (hZ.un a ha hx),fun k hk=>colsM_mem.1 hk⟩
  have s1:=htz.sz hn hm
  have hb':Bar inc (rs.erase i) RZ (colsM rs m RZ):=⟨hb.nd,fun a k ha=>hb.nb a k (List.mem_of_mem_erase ha)⟩
  have s2:=hb'.le hn' hm'
  have s3:=szM_erase (R:=RZ) hn hi
  rw [if_neg (by simpa [RZ] using c)] at s3
  omega
 ·intro hz
  refine Classical.byContradiction fun c=>?_
  let RX:Nat->Bool:=fun j=>R' j && decide (j≠i)
  have hcn:cno (rs.erase i) RX=cno (rs.erase i) R':=by
   unfold cno
   congr 1
   refine List.filter_congr fun j hj=>?_
   have:j≠i:=fun e=>hno (e ▸ hj)
   simp [RX,this]
  have hb:Bar inc rs RX S':=⟨ht'.bar.nd,fun a k ha hR hk=>by
   simp [RX] at hR
   exact ht'.bar.nb a k ((hn.mem_erase_iff).2 ⟨hR.2,ha⟩) hR.1 hk⟩
  have s1:=ht'.sz hn' hm'
  have s3:=szM_erase (R:=RX) hn hi
  rw [if_neg (by simp [RX]),hcn] at s3
  have s4:=hb.le hn hm
  have s5:szM (rs.erase i) m'<=szM rs m:=by
   have hb2:Bar inc (rs.erase i) R S:=⟨ht.bar.nd,fun a k ha=>ht.bar.nb a k (List.mem_of_mem_erase ha)⟩
   have s6:=hb2.le hn' hm'
   have s7:=ht.sz hn hm
   have s8:=szM_erase (R:=R) hn hi
   omega
  have htx:=hb.tight hn hm (by omega)
  have:=least _ (htx.clo hm) i hi hz
  simp [RX] at this
theorem Tight.same {R':Nat->Bool} {S':List Nat} (hn:rs.Nodup) (hm:Mt inc rs m) (h:Tight inc rs m R S) (hm':Mt inc rs m') (h':Tight inc rs m' R' S'):szM rs m=szM rs m':=by
 have a:=h'.bar.le hn hm
 have b:=h.bar.le hn hm'
 have c:=h.sz hn hm
 have d:=h'.sz hn hm'
 omega
end
end Go.Proofs.Ytbjnmmgnonldnaa.E
namespace Go.Proofs.Ytbjnmmgnonldnaa.E
structure Prs (E:Nat->List Nat) (row col:Nat->Option Nat):Prop where
 rc:∀ r k,row r=some k ↔ col k=some r
 inc:∀ r k,row r=some k->k ∈ E r
structure Cls (E:Nat->List Nat) (col:Nat->Option Nat) (R S:Nat->Prop):Prop where
 nb:∀ r k,R r->k ∈ E r->S k
 own:∀ k,S k->∃ r,R r/\col k=some r
def up (f:Nat->Option Nat) (a:Nat) (b:Nat) (x:Nat):Option Nat:=if x=a then some b else f x
structure Lost (E:Nat->List Nat) (col:Nat->Option Nat) (seen seen':Nat->Prop):Prop where
 up:∀ k,seen k->seen' k
 st:∀ k,seen' k->¬ seen k->∃ j,col k=some j/\∀ k',k' ∈ E j->seen' k'
structure Won (E:Nat->List Nat) (i:Nat) (seen:Nat->Prop) (row col row' col':Nat->Option Nat):Prop where
 new:∃ k,row' i=some k/\¬ seen k
 old:∀ r,r≠i->(row' r).isSome=(row r).isSome
 rc:∀ r k,row' r=some k->col' k=some r
 cr:∀ k r,col' k=some r->row' r=some k\/r=i/\col k=some i
 sn:∀ k,seen k->col' k=col k
 stay:∀ r,r≠i->(∀ k,row r=some k->seen k)->row' r=row r
 inc:∀ r k,row' r=some k->k ∈ E r
 cls:∀ R S,Cls E col R S->¬ R i/\∀ k,S k->col' k=col k
section
variable {E:Nat->List Nat} {i j k:Nat} {seen seen' seen2:Nat->Prop} {row col row' col':Nat->Option Nat}
theorem Lost.refl:Lost E col seen seen:=⟨fun _ h=>h,fun _ h g=>absurd h g⟩
theorem Lost.trans (h:Lost E col seen seen') (g:Lost E col seen' seen2):Lost E col seen seen2:=⟨fun k hk=>g.up k (h.up k hk),fun k h2 h0=>by
 by_cases c:seen' k
 ·obtain ⟨j,h3,h4⟩:=h.st k c h0
  exact ⟨j,h3,fun k' hk'=>g.up k' (h4 k' hk')⟩
 ·exact g.st k h2 c⟩
theorem Lost.add (hc:col k=some j) (h:Lost E col (fun x=>seen x\/x=k) seen') (hE:∀ k',k' ∈ E j->seen' k'):Lost E col seen seen':=⟨fun x hx=>h.up x (.inl hx),fun x hx h0=>by
 by_cases c:x=k
 ·rw [c];exact ⟨j,hc,hE⟩
 ·exact h.st x hx fun g=>g.elim h0 c⟩
theorem Won.mono (h:Won E i seen' row col row' col') (hs:∀ k,seen k->seen' k):Won E i seen row col row' col':=
 ⟨h.new.imp fun k hk=>⟨hk.1,fun g=>hk.2 (hs k g)⟩,h.old,h.rc,h.cr,fun k hk=>h.sn k (hs k hk),fun r hr hk=>h.stay r hr fun k g=>hs k (hk k g),h.inc,h.cls⟩
theorem Won.free (hp:Prs E row col) (hi:∀ k,row i=some k->seen k) (hk:k ∈ E i) (h0: ¬ seen k) (hc:col k=none):Won E i seen row col (up row i k) (up col k i):=by
 refine ⟨⟨k,if_pos rfl,h0⟩,fun r hr=>by unfold up;rw [if_neg hr],fun r x hx=>?_,fun x r hx=>?_,fun x hx=>?_,fun r hr _=>if_neg hr,fun r x hx=>?_,fun R S h=>?_⟩
 ·unfold up at hx |-
  by_cases e:r=i
  ·rw [if_pos e] at hx
   rw [if_pos (Option.some.inj hx).symm,e]
  ·rw [if_neg e] at hx
   have:=(hp.rc r x).1 hx
   rw [if_neg fun g=>by rw [g,hc] at this;cases this]
   exact this
 ·unfold up at hx |-
  by_cases e:x=k
  ·rw [if_pos e] at hx
   rw [if_pos (Option.some.inj hx).symm,e]
   exact .inl rfl
  ·rw [if_neg e] at hx
   by_cases e2:r=i
   ·exact .inr ⟨e2,e2 ▸ hx⟩
   ·rw [if_neg e2]
    exact .inl ((hp.rc r x).2 hx)
 ·exact if_neg fun (e:x=k)=>h0 (e ▸ hx)
 ·unfold up at hx
  by_cases e:r=i
  ·rw [if_pos e] at hx
   rw [e,<- Option.some.inj hx];exact hk
  ·rw [if_neg e] at hx
   exact hp.inc r x hx
 ·have kS: ¬ S k:=fun hS=>by
   obtain ⟨r,_,hr⟩:=h.own k hS
   rw [hc] at hr;cases hr
  exact ⟨fun hR=>kS (h.nb i k hR hk),fun x hx=>if_neg fun (e:x=k)=>kS (e ▸ hx)⟩
theorem Won.push (hp:Prs E row col) (hi:∀ k,row i=some k->seen k) (hk:k ∈ E i) (h0: ¬ seen k) (hc:col k=some j) (h:Won E j (fun x=>seen x\/x=k) row col row' col'):Won E i seen row col (up row' i k) (up col' k i):=by
 have rj:row j=some k:=(hp.rc j k).2 hc
 have ji:j≠i:=fun e=>h0 (hi k (e ▸ rj))
 obtain ⟨k1,n1,n2⟩:=h.new
 have k1k:k1≠k:=fun e=>n2 (.inr e)
 refine ⟨⟨k,if_pos rfl,h0⟩,fun r hr=>?_,fun r x hx=>?_,fun x r hx=>?_,fun x hx=>?_,fun r hr hx=>?_,fun r x hx=>?_,fun R S hcl=>?_⟩
 ·unfold up
  rw [if_neg hr]
  by_cases e:r=j
  ·rw [e,n1,rj];rfl
  ·exact h.old r e
 ·unfold up at hx |-
  by_cases e:r=i
  ·rw [if_pos e] at hx
   rw [if_pos (Option.some.inj hx).symm,e]
  ·rw [if_neg e] at hx
   have c:=h.rc r x hx
   rw [if_neg fun g=>?_]
   ·exact c
   ·rw [g,h.sn k (.inr rfl),hc] at c
    have e2:r=j:=(Option.some.inj c).symm
    rw [e2,n1] at hx
    exact k1k ((Option.some.inj hx).trans g)
 ·unfold up at hx |-
  by_cases e:x=k
  ·rw [if_pos e] at hx
   rw [if_pos (Option.some.inj hx).symm,e]
   exact .inl rfl
  ·rw [if_neg e] at hx
   by_cases e2:r=i
   ·refine .inr ⟨e2,?_⟩
    rcases h.cr x r hx with g | ⟨g,_⟩
    ·rw [e2,h.stay i (Ne.symm ji) fun y hy=>.inl (hi y hy)] at g
     exact (hp.rc i x).1 g
    ·exact absurd (g.symm.trans e2) ji
   ·rw [if_neg e2]
    rcases h.cr x r hx with g | ⟨g,g2⟩
    ·exact .inl g
    ·have:=(hp.rc j x).2 g2
     rw [rj] at this
     exact absurd (Option.some.inj this).symm e
 ·unfold up
  rw [if_neg fun (e:x=k)=>h0 (e ▸ hx)]
  exact h.sn x (.inl hx)
 ·unfold up
  rw [if_neg hr]
  refine h.stay r (fun e=>h0 (hx k (e ▸ rj))) fun y hy=>.inl (hx y hy)
 ·unfold up at hx
  by_cases e:r=i
  ·rw [if_pos e] at hx
   rw [e,<- Option.some.inj hx];exact hk
  ·rw [if_neg e] at hx
   exact h.inc r x hx
 ·obtain ⟨g1,g2⟩:=h.cls R S hcl
  have kS: ¬ S k:=fun hS=>by
   obtain ⟨r,hr,hr2⟩:=hcl.own k hS
   rw [hc] at hr2
   exact g1 (Option.some.inj hr2 ▸ hr)
  refine ⟨fun hR=>kS (hcl.nb i k hR hk),fun x hx=>?_⟩
  unfold up
  rw [if_neg fun (e:x=k)=>kS (e ▸ hx)]
  exact g2 x hx
structure Mch (E:Nat->List Nat) (t:Nat) (row col:Nat->Option Nat):Prop where
 prs:Prs E row col
 hi:∀ r,t<=r->row r=none
 cls:∃ R S,Cls E col R S/\(∀ r,R r->r<t)/\∀ r,r<t->row r=none->R r
theorem Mch.zero:Mch E 0 (fun _=>none) (fun _=>none):=
 ⟨⟨fun _ _=>by simp,fun _ _ h=>(by cases h)⟩,fun _ _=>rfl,fun _=>False,fun _=>False,⟨fun _ _ h=>h.elim,fun _ h=>h.elim⟩,fun _ h=>h.elim,fun _ h=>absurd h (Nat.not_lt_zero _)⟩
theorem Mch.won {t:Nat} (h:Mch E t row col) (w:Won E t (fun _=>False) row col row' col'):Mch E (t+1) row' col':=by
 have rt:row t=none:=h.hi t (Nat.le_refl _)
 obtain ⟨k1,n1,_⟩:=w.new
 have cr:∀ k r,col' k=some r->row' r=some k:=fun k r hk=>by
  rcases w.cr k r hk with g | ⟨_,g⟩
  ·exact g
  ·have:=(h.prs.rc t k).2 g
   rw [rt] at this;cases this
 obtain ⟨R,S,hc,hR,hu⟩:=h.cls
 obtain ⟨g1,g2⟩:=w.cls R S hc
 refine ⟨⟨fun r k=>⟨w.rc r k,cr k r⟩,w.inc⟩,fun r hr=>?_,R,S,⟨hc.nb,fun k hk=>?_⟩,fun r hr=>Nat.lt_succ_of_lt (hR r hr),fun r hr hn=>?_⟩
 ·have e:=w.old r (by omega)
  rw [h.hi r (by omega)] at e
  cases hx:row' r with
  | none=>rfl
  | some x=>rw [hx] at e;cases e
 ·rw [g2 k hk];exact hc.own k hk
 ·by_cases e:r=t
  ·rw [e,n1] at hn;cases hn
  ·have e2:=w.old r e
   rw [hn] at e2
   refine hu r (by omega) ?_
   cases hx:row r with
   | none=>rfl
   | some x=>rw [hx] at e2;cases e2
theorem Mch.lost {t:Nat} (h:Mch E t row col) (l:Lost E col (fun _=>False) seen') (hE:∀ k,k ∈ E t->seen' k):Mch E (t+1) row col:=by
 obtain ⟨R,S,hc,hR,hu⟩:=h.cls
 have lt:∀ k r,col k=some r->r<t:=fun k r hk=>by
  rcases Nat.lt_or_ge r t with c | c
  ·exact c
  ·have:=(h.prs.rc r k).2 hk
   rw [h.hi r c] at this;cases this
 refine ⟨h.prs,fun r hr=>h.hi r (by omega),fun r=>R r\/r=t\/∃ k,seen' k/\col k=some r,fun k=>S k\/seen' k,⟨fun r k hr hk=>?_,fun k hk=>?_⟩,fun r hr=>?_,fun r hr hn=>?_⟩
 ·rcases hr with hr | rfl | ⟨x,hx,hcx⟩
  ·exact .inl (hc.nb r k hr hk)
  ·exact .inr (hE k hk)
  ·obtain ⟨j,h1,h2⟩:=l.st x hx fun h=>h
   rw [hcx] at h1
   exact .inr (h2 k (Option.some.inj h1 ▸ hk))
 ·rcases hk with hk | hk
  ·obtain ⟨r,h1,h2⟩:=hc.own k hk
   exact ⟨r,.inl h1,h2⟩
  ·obtain ⟨j,h1,_⟩:=l.st k hk fun h=>h
   exact ⟨j,.inr (.inr ⟨k,hk,h1⟩),h1⟩
 ·rcases hr with hr | rfl | ⟨x,hx,hcx⟩
  ·exact Nat.lt_succ_of_lt (hR r hr)
  ·exact Nat.lt_succ_self _
  ·exact Nat.lt_succ_of_lt (lt x r hcx)
 ·by_cases e:r=t
  ·exact .inr (.inl e)
  ·exact .inl (hu r (by omega) hn)
theorem Mch.tight {n c:Nat} (h:Mch E n row col) (hE:∀ r k,r<n->k ∈ E r->k<c):Mt (fun i k=>k ∈ E i) (List.range n) row/\∃ R S,Tight (fun i k=>k ∈ E i) (List.range n) row R S:=by
 classical
 obtain ⟨R,S,hc,hR,hu⟩:=h.cls
 refine ⟨⟨fun i k _ hk=>h.prs.inc i k hk,fun i j k _ _ h1 h2=>?_⟩,fun r=>decide (R r),(List.range c).filter fun k=>decide (S k),⟨⟨nodup_fil List.nodup_range,fun i k hi hr hk=>?_⟩,fun i hi hn=>?_,fun k hk=>?_⟩⟩
 ·have a:=(h.prs.rc i k).1 h1
  have b:=(h.prs.rc j k).1 h2
  rw [a] at b
  exact Option.some.inj b
 ·exact List.mem_filter.2 ⟨List.mem_range.2 (hE i k (List.mem_range.1 hi) hk),decide_eq_true (hc.nb i k (of_decide_eq_true hr) hk)⟩
 ·exact decide_eq_true (hu i (List.mem_range.1 hi) hn)
 ·obtain ⟨r,h1,h2⟩:=hc.own k (of_decide_eq_true (List.mem_filter.1 hk).2)
  exact ⟨r,List.mem_range.2 (hR r h1),decide_eq_true h1,(h.prs.rc r k).2 h2⟩
end
end Go.Proofs.Ytbjnmmgnonldnaa.E
namespace Go.Proofs.Ytbjnmmgnonldnaa.E
open Go Go.RowKit
section
variable {α:Type} [Inhabited α]
def gd (l:List α) (k:Nat):α:=l.getD k default
theorem gi_gd (l:List α) (k:Nat):gi l (k:Int)=gd l k:=by rw [gi,gd,Int.toNat_natCast]
theorem gi_gdi {l:List α} {i:Int} {k:Nat} (h:i=k):gi l i=gd l k:=by rw [h,gi_gd]
theorem gd_lt {l:List α} {k:Nat} (h:k<l.length):gd l k=l[k]:=by simp [gd,List.getD_eq_getElem?_getD,h]
theorem gd_set (l:List α) (i:Nat) (x:α) (k:Nat):gd (l.set i x) k=if i=k/\k<l.length then x else gd l k:=by
 simp only [gd,List.getD_eq_getElem?_getD,List.getElem?_set]
 by_cases h:i=k
 ·subst h
  by_cases h2:i<l.length
  ·simp [h2]
  ·simp [h2]
 ·simp [h]
theorem gd_app (l m:List α) (k:Nat):gd (l ++ m) k=if k<l.length then gd l k else gd m (k - l.length):=by
 simp only [gd,List.getD_eq_getElem?_getD,List.getElem?_append]
 split <;> rfl
theorem gd_mem {l:List α} {k:Nat} (h:k<l.length):gd l k ∈ l:=by rw [gd_lt h];exact List.getElem_mem h
theorem gd_rep (n:Nat) (x:α) {k:Nat} (h:k<n):gd (List.replicate n x) k=x:=by rw [gd_lt (by simpa using h),List.getElem_replicate]
theorem list_gd_ext {a b:List α} (hl:a.length=b.length) (h:∀ k,k<a.length->gd a k=gd b k):a=b:=
 List.ext_getElem hl fun k h1 h2=>by
  have:=h k h1
  rwa [gd_lt h1,gd_lt h2] at this
end
structure Bok (b:A2_u64):Prop where
 l0:0<=b.e0
 h0:b.e0<18446744073709551616
 l1:0<=b.e1
 h1:b.e1<18446744073709551616
def bts (b:A2_u64) (i:Nat):Bool:=((if i<64 then b.e0 else b.e1).toNat).testBit (i % 64)
theorem Bok.zero:Bok ⟨0,0⟩:=⟨by decide,by decide,by decide,by decide⟩
theorem bts_zero (i:Nat):bts ⟨0,0⟩ i=false:=by unfold bts;split <;> simp
theorem ofInt_nat {y:Int} (h0:0<=y) (h1:y<18446744073709551616):(BitVec.ofInt IntKind.u64.bits y).toNat=y.toNat:=by
 rw [BitVec.toNat_ofInt]
 have:IntKind.u64.bits=64:=rfl
 rw [this]
 omega
theorem iand_one {y:Int} (h0:0<=y) (h1:y<18446744073709551616):iand .u64 y 1=y % 2:=by
 unfold iand
 rw [BitVec.toNat_and,ofInt_nat h0 h1,ofInt_nat (by omega) (by omega),wrap_u64]
 have:y.toNat &&& (1:Int).toNat=y.toNat % 2:=Nat.and_one_is_mod _
 rw [this]
 omega
theorem ior_nat {x y:Int} (h0:0<=x) (h1:x<18446744073709551616) (g0:0<=y) (g1:y<18446744073709551616):ior .u64 x y=((x.toNat ||| y.toNat:Nat):Int):=by
 unfold ior
 rw [BitVec.toNat_or,ofInt_nat h0 h1,ofInt_nat g0 g1,wrap_u64]
 have:x.toNat ||| y.toNat<2 ^ 64:=Nat.or_lt_two_pow (by omega) (by omega)
 omega
theorem shl_one {k:Nat} (hk:k<64):ishl .u64 1 (k:Int)=((2 ^ k:Nat):Int):=by
 rw [ishl_n _ _ _ (by show k<=64;omega),wrap_u64,Int.one_mul]
 have h1:(2:Nat) ^ k<2 ^ 64:=Nat.pow_lt_pow_right (by omega) hk
 have h2:((2:Int) ^ k)=((2 ^ k:Nat):Int):=by push_cast;rfl
 rw [h2]
 clear h2
 generalize (2:Nat) ^ k=z at h1 |-
 omega
section
variable {b:A2_u64} {i:Nat}
theorem at_word (h:Bok b) (hi:i<128):b.at_ ((i:Int).tdiv 64)=(if i<64 then b.e0 else b.e1)/\0<=b.at_ ((i:Int).tdiv 64)/\b.at_ ((i:Int).tdiv 64)<18446744073709551616:=by
 have e:(i:Int).tdiv 64=((i / 64:Nat):Int):=by rw [Int.tdiv_eq_ediv_of_nonneg (by omega)];omega
 rw [e]
 unfold A2_u64.at_
 obtain ⟨a,c,d,f⟩:=h
 by_cases g:i<64
 ·rw [if_pos (by omega),if_pos g];exact ⟨rfl,a,c⟩
 ·rw [if_neg (by omega),if_neg g];exact ⟨rfl,d,f⟩
theorem tdm (i:Nat):(i:Int).tdiv 64=((i / 64:Nat):Int)/\(i:Int).tmod 64=((i % 64:Nat):Int):=by
 constructor
 ·rw [Int.tdiv_eq_ediv_of_nonneg (by omega)];omega
 ·rw [Int.tmod_eq_emod_of_nonneg (by omega)];omega
theorem match_bits_has_run {Q:Bool->Prop} (h:Bok b) (hi:i<128) (H:Q (bts b i)):(match_bits_has.f b (i:Int)).run Q:=by
 unfold match_bits_has.f
 obtain ⟨e1,e2⟩:=tdm i
 obtain ⟨w1,w2,w3⟩:=at_word h hi
 refine W.req_i (by rw [e1];show _/\_;omega) (W.req_i (by rw [e1];omega) (W.req_i (by rw [e2];omega) ?_))
 show Q _
 have:decide (iand .u64 (ishr .u64 (b.at_ ((i:Int).tdiv 64)) ((i:Int).tmod 64)) 1=1)=bts b i:=by
  unfold bts
  rw [<- w1,e2]
  generalize b.at_ ((i:Int).tdiv 64)=x at w2 w3
  rw [ishr_n _ _ _ (by show i % 64<=64;omega)]
  have p:(0:Int)<2 ^ (i % 64):=Int.pow_pos (by decide)
  have d0:0<=x / 2 ^ (i % 64):=Int.ediv_nonneg w2 (Int.le_of_lt p)
  have d1:x / 2 ^ (i % 64)<=x:=Int.ediv_le_self _ w2
  rw [iand_one d0 (by omega),Nat.testBit_eq_decide_div_mod_eq]
  have e3:x / 2 ^ (i % 64)=((x.toNat / 2 ^ (i % 64):Nat):Int):=by
   have:((2:Int) ^ (i % 64))=((2 ^ (i % 64):Nat):Int):=by push_cast;rfl
   rw [this]
   conv=>lhs;rw [show x=(x.toNat:Int) by omega]
   rfl
  rw [e3,decide_eq_decide]
  omega
 rw [this]
 exact H
theorem match_bits_with_run {Q:A2_u64->Prop} (h:Bok b) (hi:i<128) (H:∀ b',Bok b'->(∀ j,j<128->bts b' j=(bts b j || decide (j=i)))->Q b'):(match_bits_with.f b (i:Int)).run Q:=by
 unfold match_bits_with.f
 obtain ⟨e1,e2⟩:=tdm i
 obtain ⟨w1,w2,w3⟩:=at_word h hi
 have hb:=h
 refine W.req_i (by rw [e1];show _/\_;omega) (W.req_i (by rw [e1];omega) (W.req_i (by rw [e2];omega) (W.req_i (by rw [e1];omega) ?_)))
 have p64:(2:Nat) ^ (i % 64)<2 ^ 64:=Nat.pow_lt_pow_right (by omega) (by omega)
 have hv:ior .u64 (b.at_ ((i:Int).tdiv 64)) (ishl .u64 1 ((i:Int).tmod 64))=(((if i<64 then b.e0 else b.e1).toNat ||| 2 ^ (i % 64):Nat):Int):=by
  rw [e2,shl_one (by omega),ior_nat w2 w3 (Int.natCast_nonneg _) (by exact Int.ofNat_lt.2 p64),w1,Int.toNat_natCast]
 rw [hv,e1]
 have lt:(if i<64 then b.e0 else b.e1).toNat ||| 2 ^ (i % 64)<2 ^ 64:=Nat.or_lt_two_pow (by rw [w1] at w3;omega) p64
 obtain ⟨a,c,d,f⟩:=h
 obtain ⟨z,hz⟩:∃ z:Nat,z=(if i<64 then b.e0 else b.e1).toNat ||| 2 ^ (i % 64):=⟨_,rfl⟩
 rw [<- hz] at lt |-
 clear hv p64 w1 w2 w3
 refine H _ ?_ fun j hj=>?_
 ·clear hz e1 e2
  unfold A2_u64.put
  by_cases g:i<64
  ·refine ⟨?_,?_,?_,?_⟩ <;> simp only [if_pos g,if_pos (show ((i / 64:Nat):Int)=0 by omega),if_neg (show ¬ ((i / 64:Nat):Int)=1 by omega)] <;> omega
  ·refine ⟨?_,?_,?_,?_⟩ <;> simp only [if_neg g,if_neg (show ¬ ((i / 64:Nat):Int)=0 by omega),if_pos (show ((i / 64:Nat):Int)=1 by omega)] <;> omega
 ·unfold bts A2_u64.put
  by_cases g:i<64
  ·simp only [if_pos g,if_pos (show ((i / 64:Nat):Int)=0 by omega),if_neg (show ¬ ((i / 64:Nat):Int)=1 by omega)]
   by_cases g2:j<64
   ·simp only [if_pos g2,Int.toNat_natCast]
    rw [hz,if_pos g,Nat.testBit_or,Nat.testBit_two_pow]
    congr 1
    rw [decide_eq_decide];omega
   ·simp only [if_neg g2]
    rw [decide_eq_false (by omega),Bool.or_false]
  ·simp only [if_neg g,if_neg (show ¬ ((i / 64:Nat):Int)=0 by omega),if_pos (show ((i / 64:Nat):Int)=1 by omega)]
   by_cases g2:j<64
   ·simp only [if_pos g2]
    rw [decide_eq_false (by omega),Bool.or_false]
   ·simp only [if_neg g2,Int.toNat_natCast]
    rw [hz,if_neg g,Nat.testBit_or,Nat.testBit_two_pow]
    congr 1
    rw [decide_eq_decide];omega
end
end Go.Proofs.Ytbjnmmgnonldnaa.E
namespace Go.Proofs.Ytbjnmmgnonldnaa.E
open Go Go.RowKit
structure Inc (m:api_Incidence) (R C:Nat):Prop where
 rows:m.Rows=R
 cols:m.Cols=C
 len:m.E.length=R
 r64:R<=64
 c64:C<=64
 lt:∀ r k,k ∈ gd m.E r->0<=k/\k<C
def El (m:api_Incidence) (r:Nat):List Nat:=(gd m.E r).map Int.toNat
def opt (x:Int):Option Nat:=if x<0 then none else some x.toNat
def fo (l:List Int) (i:Nat):Option Nat:=if i<l.length then opt (gd l i) else none
def seenP (b:A2_u64) (k:Nat):Prop:=k<128/\bts b k=true
section
variable {m:api_Incidence} {R C:Nat}
theorem Inc.at_ (h:Inc m R C) {r t:Nat} (ht:t<(gd m.E r).length):∃ k:Nat,gd (gd m.E r) t=(k:Int)/\k<C/\k ∈ El m r/\gd (El m r) t=k:=by
 have hm:=gd_mem ht
 have:=h.lt r _ hm
 refine ⟨(gd (gd m.E r) t).toNat,by omega,by omega,List.mem_map.2 ⟨_,hm,rfl⟩,?_⟩
 unfold El
 rw [gd_lt (by simpa using ht),List.getElem_map,gd_lt ht]
theorem El.len {r:Nat} :(El m r).length=(gd m.E r).length:=by unfold El;rw [List.length_map]
end
section
variable {l:List Int} {a b i k:Nat}
theorem opt_nat (k:Nat):opt (k:Int)=some k:=by unfold opt;rw [if_neg (by omega),Int.toNat_natCast]
theorem opt_some {x:Int} (h:opt x=some k):x=k:=by
 unfold opt at h
 split at h
 ·cases h
 ·have:=Option.some.inj h;omega
theorem opt_none {x:Int} (h:x<0):opt x=none:=if_pos h
theorem fo_lt (h:i<l.length):fo l i=opt (gd l i):=if_pos h
theorem fo_some (h:fo l i=some k):i<l.length/\gd l i=(k:Int):=by
 unfold fo at h
 split at h
 ·exact ⟨by assumption,opt_some h⟩
 ·cases h
theorem fo_neg (hi:i<l.length) (h:gd l i<0):fo l i=none:=by rw [fo_lt hi,opt_none h]
theorem fo_pos (hi:i<l.length) (h: ¬ gd l i<0):fo l i=some (gd l i).toNat:=by rw [fo_lt hi];exact if_neg h
theorem fo_set (ha:a<l.length):fo (l.set a (b:Int))=up (fo l) a b:=by
 funext x
 unfold up
 by_cases e:x=a
 ·subst e
  rw [if_pos rfl,fo_lt (by simpa using ha),gd_set,if_pos ⟨rfl,ha⟩,opt_nat]
 ·rw [if_neg e]
  simp only [fo,List.length_set,gd_set,if_neg (show ¬ (a=x/\x<l.length) from fun g=>e g.1.symm)]
end
theorem W.ret_bd {α β:Type} {a:α} {f:α->W β} {p:β->Prop} (h:(f a).run p):(W.bind (W.ret a) f).run p:=h
def unseen (b:A2_u64):Nat:=((List.range 128).filter fun k=>!bts b k).length
theorem unseen_lt {b b':A2_u64} {k:Nat} (hk:k<128) (h0:bts b k=false) (h1:bts b' k=true) (h:∀ j,j<128->bts b j=true->bts b' j=true):unseen b'<unseen b:=by
 unfold unseen
 have le:((List.range 128).filter fun k=>!bts b' k).length<=((List.range 128).filter fun k=>!bts b k).length:=by
  refine (nodup_fil List.nodup_range).length_le_of_subset fun x hx=>?_
  obtain ⟨x1,x2⟩:=List.mem_filter.1 hx
  refine List.mem_filter.2 ⟨x1,?_⟩
  cases e:bts b x with
  | false=>rfl
  | true=>rw [h x (List.mem_range.1 x1) e] at x2;simp at x2
 rcases Nat.lt_or_ge ((List.range 128).filter fun k=>!bts b' k).length ((List.range 128).filter fun k=>!bts b k).length with c | c
 ·exact c
 ·exfalso
  have ka:k ∈ (List.range 128).filter fun k=>!bts b k:=List.mem_filter.2 ⟨List.mem_range.2 hk,by rw [h0];rfl⟩
  have kn:k ∉ (List.range 128).filter fun k=>!bts b' k:=fun g=>by
   have:=(List.mem_filter.1 g).2
   rw [h1] at this;simp at this
  have:((List.range 128).filter fun k=>!bts b' k).length<=(((List.range 128).filter fun k=>!bts b k).erase k).length:=by
   refine (nodup_fil List.nodup_range).length_le_of_subset fun x hx=>?_
   obtain ⟨x1,x2⟩:=List.mem_filter.1 hx
   have nd:((List.range 128).filter fun k=>!bts b k).Nodup:=nodup_fil List.nodup_range
   rw [nd.mem_erase_iff]
   refine ⟨fun e=>kn (e ▸ hx),List.mem_filter.2 ⟨x1,?_⟩⟩
   cases e:bts b x with
   | false=>rfl
   | true=>rw [h x (List.mem_range.1 x1) e] at x2;simp at x2
  rw [List.length_erase_of_mem ka] at this
  have:=List.length_pos_of_mem ka
  omega
def TryS (a:Int×api_Incidence×A2_u64×match_pairs) (Q:Bool×A2_u64×List Int×List Int->Prop):Prop:=
 ∃ i R C:Nat,a.1=(i:Int)/\i<R/\Inc a.2.1 R C/\Bok a.2.2.1/\a.2.2.2.row.length=R/\a.2.2.2.col.length=C/\Prs (El a.2.1) (fo a.2.2.2.row) (fo a.2.2.2.col)/\(∀ k,fo a.2.2.2.row i=some k->seenP a.2.2.1 k)/\
  (∀ s',Bok s'->Lost (El a.2.1) (fo a.2.2.2.col) (seenP a.2.2.1) (seenP s')->(∀ k,k ∈ El a.2.1 i->seenP s' k)->Q (false,s',a.2.2.2.row,a.2.2.2.col))/\
  (∀ s' row' col',Bok s'->row'.length=R->col'.length=C->Won (El a.2.1) i (seenP a.2.2.1) (fo a.2.2.2.row) (fo a.2.2.2.col) (fo row') (fo col')->Q (true,s',row',col'))
theorem try_run {i R C:Nat} {m:api_Incidence} {s0:A2_u64} {p:match_pairs} {Q:Bool×A2_u64×List Int×List Int->Prop} (hS:TryS (i,m,s0,p) Q):(match_pairs_grow_1.f (i:Int) m s0 p).run Q:=by
 unfold match_pairs_grow_1.f
 refine W.fix_run (fun a=>unseen a.2.2.1) (S:=TryS) ?_ _ Q hS
 clear hS
 rintro rec ⟨x0,m,s0,⟨row,col⟩⟩ Q hrec ⟨i,R,C,hx,hi,hI,hb,hrl,hcl,hp,hseen,H0,H1⟩
 simp only at hx hI hb hrl hcl hp hseen H0 H1 hrec |-
 subst hx
 have hlen:=hI.len
 have hc64:=hI.c64
 unfold match_pairs_grow_1.b
 refine W.req_i (by omega) ?_
 refine W.loop_c (fun s:List Int×List Int×A2_u64×Int=>∃ t:Nat,s.1=col/\s.2.1=row/\s.2.2.2=t/\t<=(gd m.E i).length/\Bok s.2.2.1/\Lost (El m) (fo col) (seenP s0) (seenP s.2.2.1)/\∀ t',t'<t->seenP s.2.2.1 (gd (El m i) t')) (fun s=>(gd m.E i).length - s.2.2.2.toNat) ⟨0,rfl,rfl,rfl,Nat.zero_le _,hb,Lost.refl,fun t ht=>by omega⟩ ?_
 rintro ⟨_,_,s,_⟩ P ⟨t,rfl,rfl,rfl,ht,hbs,hL,hE⟩ hgo hbrk hout
 rename_i col row
 simp only at hbs hL hE hgo hbrk hcl hrl hseen hp H0 H1 |-
 unfold match_pairs_grow_1.l1
 simp only [gi_gd]
 refine W.run_if (fun c=>W.req_i (by omega) ?_) fun c=>hbrk _ ?_
 ·obtain ⟨k,hk,hkC,hkE,hkt⟩:=hI.at_ (r:=i) (t:=t) (by omega)
  simp only [hk,gi_gd,Int.toNat_natCast]
  have next:∀ s':A2_u64,Bok s'->Lost (El m) (fo col) (seenP s0) (seenP s')->(∀ x,seenP s x->seenP s' x)->seenP s' k->P (.go (col,row,s',(t:Int)+1)):=fun s' h1 h2 h3 h4=>hgo _ ⟨t+1,rfl,rfl,by simp,by omega,h1,h2,fun t' ht'=>by
   by_cases e:t'=t
   ·rw [e,hkt];exact h4
   ·exact h3 _ (hE t' (by omega))⟩ (by simp;omega)
  refine W.bd (match_bits_has_run hbs (by omega) (W.run_if (fun c1=>next s hbs hL (fun _ h=>h) ⟨by omega,c1⟩) fun c1=>?_))
  have c1:bts s k=false:=by simpa using c1
  unfold match_every.f
  refine W.ret_bd (W.run_if (fun _=>?_) fun c=>absurd rfl c)
  refine W.bd (match_bits_with_run hbs (by omega) fun s1 hb1 hs1=>W.req_i (by omega) ?_)
  have k1:seenP s1 k:=⟨by omega,by rw [hs1 k (by omega)];simp⟩
  have up1:∀ x,seenP s x->seenP s1 x:=fun x hx=>⟨hx.1,by rw [hs1 x hx.1,hx.2];rfl⟩
  have eq1:∀ x,seenP s1 x ↔ seenP s x\/x=k:=fun x=>by
   constructor
   ·rintro ⟨a,b⟩
    rw [hs1 x a] at b
    by_cases e:x=k
    ·exact .inr e
    ·rw [decide_eq_false e,Bool.or_false] at b;exact .inl ⟨a,b⟩
   ·rintro (h | h)
    ·exact up1 x h
    ·exact h ▸ k1
  have nk: ¬ seenP s k:=fun h=>by have h2:=h.2;rw [c1] at h2;cases h2
  have nk0: ¬ seenP s0 k:=fun h=>nk (hL.up k h)
  have hi2:∀ k,fo row i=some k->seenP s k:=fun k hk=>hL.up k (hseen k hk)
  refine W.run_if (fun c2=>W.req_i (by omega) (W.req_i (by omega) ?_)) fun c2=>W.req_i (by omega) ?_
  ·unfold match_pairs_grow_1.j2
   refine hout _ (H1 s1 _ _ hb1 (by simpa using hrl) (by simpa using hcl) ?_)
   rw [fo_set (by omega),fo_set (by omega)]
   exact Won.free hp hseen hkE nk0 (fo_neg (by omega) c2)
  ·obtain ⟨j,hj⟩:∃ j:Nat,gd col k=(j:Int):=⟨(gd col k).toNat,by omega⟩
   have hcj:fo col k=some j:=by rw [fo_pos (by omega) c2,hj,Int.toNat_natCast]
   have hrj:fo row j=some k:=(hp.rc j k).2 hcj
   rw [hj]
   refine W.bd (hrec _ _ ?_ ⟨j,R,C,rfl,by rw [<- hrl];exact (fo_some hrj).1,hI,hb1,hrl,hcl,hp,fun x hx=>?_,fun s' hb' hl' he'=>?_,fun s' row' col' hb' hr' hc' hw'=>?_⟩)
   ·refine unseen_lt (k:=k) (by omega) ?_ k1.2 fun x hx hx2=>?_
    ·cases e:bts s0 k with
     | false=>rfl
     | true=>exact absurd ⟨by omega,e⟩ nk0
    ·exact (up1 x (hL.up x ⟨hx,hx2⟩)).2
   ·rw [hrj] at hx
    rw [<- Option.some.inj hx];exact k1
   ·have hl2:Lost (El m) (fo col) (fun x=>seenP s x\/x=k) (seenP s'):=⟨fun x hx=>hl'.up x ((eq1 x).2 hx),fun x hx h0=>hl'.st x hx fun g=>h0 ((eq1 x).1 g)⟩
    dsimp only
    rw [if_neg (by simp)]
    exact next s' hb' (hL.trans (hl2.add hcj he')) (fun x hx=>hl'.up x (up1 x hx)) (hl'.up k k1)
   ·dsimp only
    rw [if_pos rfl]
    refine W.req_i (by omega) (W.req_i (by omega) ?_)
    unfold match_pairs_grow_1.j3
    refine hout _ (H1 s' _ _ hb' (by simpa using hr') (by simpa using hc') ?_)
    rw [fo_set (by omega),fo_set (by omega)]
    refine Won.mono ?_ hL.up
    refine Won.push hp hi2 hkE nk hcj (hw'.mono fun x hx=>(eq1 x).2 hx)
 ·obtain rfl:t=(gd m.E i).length:=by omega
  unfold match_pairs_grow_1.j1
  refine H0 s hbs hL fun x hx=>?_
  obtain ⟨t,ht,rfl⟩:=List.mem_iff_getElem.1 hx
  have:=hE t (by rw [<- El.len];exact ht)
  rwa [gd_lt ht] at this
theorem none_run {n:Nat} {Q:List Int->Prop} (hn:n<=64) (H:Q (List.replicate n (-1))):(match_none.f (n:Int)).run Q:=by
 unfold match_none.f
 rw [Int.toNat_natCast]
 refine W.req_i (by omega) ?_
 refine W.loop_c (fun s:List Int×Int=>∃ i:Nat,s.2=i/\i<=n/\s.1.length=n/\∀ k,k<i->gd s.1 k= -1) (fun s=>n - s.2.toNat) ⟨0,rfl,Nat.zero_le _,by simp,fun k hk=>by omega⟩ ?_
 rintro ⟨o,_⟩ P ⟨i,rfl,hi,ho,hg⟩ hgo hbrk hout
 simp only at ho hg hgo |-
 unfold match_none.l1
 rw [Int.toNat_natCast,List.length_replicate,Int.toNat_natCast]
 refine W.run_if (fun c=>W.req_i (by omega) (hgo _ ⟨i+1,by simp,by omega,by simpa using ho,fun k hk=>?_⟩ (by simp;omega))) fun c=>hbrk _ ?_
 ·show gd (o.set i (-1)) k= -1
  rw [gd_set]
  by_cases e:i=k
  ·rw [if_pos ⟨e,by omega⟩]
  ·rw [if_neg fun g=>e g.1];exact hg k (by omega)
 ·obtain rfl:i=n:=by omega
  unfold match_none.j1
  show Q o
  rwa [show o=List.replicate i (-1) from list_gd_ext (by simpa using ho) fun k hk=>by rw [hg k (by omega),gd_rep _ _ (by omega)]]
theorem fo_rep (n i:Nat):fo (List.replicate n (-1)) i=none:=by
 unfold fo
 split
 ·rename_i h
  rw [gd_rep _ _ (by simpa using h)];rfl
 ·rfl
theorem match_run {m:api_Incidence} {R C:Nat} {Q:match_pairs->Prop} (hI:Inc m R C) (H:∀ p:match_pairs,p.row.length=R->p.col.length=C->Mch (El m) R (fo p.row) (fo p.col)->Q p):(match_match.f m).run Q:=by
 have hr64:=hI.r64
 have hc64:=hI.c64
 unfold match_match.f
 rw [hI.rows,hI.cols]
 refine W.bd (none_run hr64 (W.bd (none_run hc64 ?_)))
 refine W.loop_c (fun s:List Int×List Int×Int=>∃ t:Nat,s.2.2=t/\t<=R/\s.1.length=R/\s.2.1.length=C/\Mch (El m) t (fo s.1) (fo s.2.1)) (fun s=>R - s.2.2.toNat) ⟨0,rfl,Nat.zero_le _,by simp,by simp,?_⟩ ?_
 ·have e1:fo (List.replicate R (-1))=fun _=>none:=funext fun i=>fo_rep R i
  have e2:fo (List.replicate C (-1))=fun _=>none:=funext fun i=>fo_rep C i
  show Mch _ _ (fo (List.replicate R (-1))) (fo (List.replicate C (-1)))
  rw [e1,e2]
  exact Mch.zero
 rintro ⟨row,col,_⟩ P ⟨t,rfl,ht,h1,h2,hM⟩ hgo hbrk hout
 simp only at h1 h2 hM hgo hbrk |-
 unfold match_match.l1
 rw [hI.rows]
 refine W.run_if (fun c=>?_) fun c=>hbrk _ ?_
 ·unfold match_every.f
  refine W.ret_bd (W.run_if (fun _=>?_) fun c=>absurd rfl c)
  unfold match_pairs_grow.f
  have noneS:∀ k,¬ seenP ⟨0,0⟩ k:=fun k h=>by have h2:=h.2;rw [bts_zero] at h2;cases h2
  have e0:seenP ⟨0,0⟩ =fun _=>False:=funext fun k=>propext ⟨fun h=>noneS k h,fun h=>h.elim⟩
  refine W.bd (try_run (i:=t) (R:=R) (C:=C) (m:=m) ⟨t,R,C,rfl,by omega,hI,Bok.zero,h1,h2,hM.prs,fun k hk=>?_,fun s' hb' hl' he'=>?_,fun s' row' col' hb' hr' hc' hw'=>?_⟩)
  ·simp only at hk
   rw [hM.hi t (Nat.le_refl _)] at hk;cases hk
  ·simp only at hl'
   rw [e0] at hl'
   exact hgo _ ⟨t+1,by simp,by omega,h1,h2,hM.lost hl' he'⟩ (by simp;omega)
  ·simp only at hw'
   rw [e0] at hw'
   exact hgo _ ⟨t+1,by simp,by omega,hr',hc',hM.won hw'⟩ (by simp;omega)
 ·obtain rfl:t=R:=by omega
  unfold match_match.j1
  exact H _ h1 h2 hM
end Go.Proofs.Ytbjnmmgnonldnaa.E
