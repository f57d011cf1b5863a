/- The engine, part 1: regions and code over frames of known slots; operations that yield values. No program text. -/
import Derived.Test.YtbjnmmgnonldnaaKE0
import Derived.Test.YtbjnmmgnonldnaaWLast
namespace Go.Proofs.Ytbjnmmgnonldnaa.E
open Go Go.RowKit Go.Proofs.YtbjnmmgnonldnaaW.PrintLast
section
variable {P:Program} {ops:Array Oper} {Q:Exit->Act->World->Prop} {o:Oper} {rest:List Oper} {n d:Nat} {L:List (Nat×Value)} {w:World} {v:Value} {S:World->Prop}
def OpV (P:Program) (o:Oper) (n:Nat) (L:List (Nat×Value)) (w:World) (v:Value):Prop:=∀ a,Fr n L a->(execOp a.eval o).run P w= .ok (.value v) w
def OpC (P:Program) (o:Oper) (n:Nat) (L:List (Nat×Value)) (w:World) (post:Value->World->Prop):Prop:=
 ∀ a,Fr n L a->∀ (K:Act->World->Prop) (Q:Exit->Act->World->Prop),(∀ v w',post v w'->K (a.put o.dst v) w')->o.wp P a w K Q
theorem OpV.c (h:OpV P o n L w v):OpC P o n L w (fun u w'=>u=v/\w'=w):=fun a ha K Q hK=>by
 have:=h a ha
 unfold Oper.wp
 rw [this]
 exact hK v w ⟨rfl,rfl⟩
theorem OpC.mono {p q:Value->World->Prop} (h:OpC P o n L w p) (hpq:∀ v w,p v w->q v w):OpC P o n L w q:=
 fun a ha K Q hK=>h a ha K Q fun v w' hv=>hK v w' (hpq v w' hv)
def wantB (ops:Array Oper) (L:List (Nat×Value)) (o:Oper):Option Bool:=
 match o.guard with
 | none=>some true
 | some (j,b)=>match (ops[j]?).bind (·.dst) with
  | some t=>match lk L t with
   | some (.bool c)=>some (c == b)
   | some _=>some false
   | none=>none
  | none=>none
theorem wantB_spec {b:Bool} (h:wantB ops L o=some b) {a:Act} (ha:Fr n L a):Region.wanted o (yielded ops a.tmps)=b:=by
 unfold wantB at h
 unfold Region.wanted
 cases hg:o.guard with
 | none=>rw [hg] at h;simpa using h
 | some g=>
  obtain ⟨j,c⟩:=g
  rw [hg] at h
  simp only at h |-
  cases ht:(ops[j]?).bind (·.dst) with
  | none=>rw [ht] at h;simp at h
  | some t=>
   rw [ht] at h
   simp only at h
   cases hl:lk L t with
   | none=>rw [hl] at h;simp at h
   | some u=>
    rw [hl] at h
    have hg':=ha.get t _ hl
    unfold yielded
    rw [ht]
    cases u <;> simp only [Option.some.injEq] at h <;> subst h <;> simp [hg']
def WL (P:Program) (ops:Array Oper) (Q:Exit->Act->World->Prop) (rest:List Oper) (n:Nat) (L:List (Nat×Value)) (w:World):Prop:=∀ a,Fr n L a->wpList P ops Q rest a w
def WC (P:Program) (c:Code) (Q:Exit->Act->World->Prop) (n:Nat) (L:List (Nat×Value)) (w:World):Prop:=∀ a,Fr n L a->c.wp P Q a w
theorem WC.start {c:Code} {a:Act} (ha:Fr n L a) (h:WC P c Q n L w):c.wp P Q a w:=h a ha
theorem WC.region {id:Nat} {l:List Oper} (h:WL P l.toArray Q l n L w):WC P (.region id l.toArray false) Q n L w:=fun a ha=>wp_region_lit (h a ha)
def putL (dst:Option Tmp) (v:Value) (L:List (Nat×Value)):List (Nat×Value):=match dst with
 | some d=>(d,v) ::L
 | none=>L
def fits (dst:Option Tmp) (n:Nat):Bool:=match dst with
 | some d=>Nat.blt d n
 | none=>true
theorem Fr.putL {dst:Option Tmp} {a:Act} (h:Fr n L a) (hd:fits dst n=true) (v:Value):Fr n (E.putL dst v L) (a.put dst v):=by
 cases dst with
 | none=>exact h
 | some d=>exact h.put hd v
theorem WL.val (h:OpV P o n L w v) (hw:wantB ops L o=some true) (hd:o.dst=some d) (hn:Nat.blt d n=true) (k:WL P ops Q rest n ((d,v) ::L) w):WL P ops Q (o ::rest) n L w:=fun a ha=>by
 unfold wpList
 rw [if_pos (wantB_spec hw ha)]
 refine .inl ?_
 unfold Oper.wp
 rw [h a ha,Oper.upon_value,hd]
 exact k _ (ha.put hn v)
theorem WL.c {post:Value->World->Prop} (h:OpC P o n L w post) (hw:wantB ops L o=some true) (hd:o.dst=some d) (hn:Nat.blt d n=true) (k:∀ v w',post v w'->WL P ops Q rest n ((d,v) ::L) w'):WL P ops Q (o ::rest) n L w:=fun a ha=>by
 unfold wpList
 rw [if_pos (wantB_spec hw ha)]
 refine .inl (h a ha _ _ fun v w' hp=>?_)
 rw [hd]
 exact k v w' hp _ (ha.put hn v)
theorem WL.s {post:Value->World->Prop} (h:OpC P o n L w post) (hw:wantB ops L o=some true) (hd:o.dst=none) (k:∀ v w',post v w'->WL P ops Q rest n L w'):WL P ops Q (o ::rest) n L w:=fun a ha=>by
 unfold wpList
 rw [if_pos (wantB_spec hw ha)]
 refine .inl (h a ha _ _ fun v w' hp=>?_)
 rw [hd]
 exact k v w' hp _ ha
theorem WL.b {b:Bool} (h:OpV P o n L w (.bool b)) (hw:wantB ops L o=some true) (hd:o.dst=some d) (hn:Nat.blt d n=true) {b':Bool} (hb:b=b') (k:WL P ops Q rest n ((d,.bool b') ::L) w):WL P ops Q (o ::rest) n L w:=by
 subst hb
 exact WL.val h hw hd hn k
theorem WL.off (hw:wantB ops L o=some false) (hn:fits o.dst n=true) (k:WL P ops Q rest n (putL o.dst undef L) w):WL P ops Q (o ::rest) n L w:=fun a ha=>by
 unfold wpList
 rw [if_neg (by rw [wantB_spec hw ha];simp)]
 exact k _ (ha.putL hn undef)
theorem WL.nil (h:∀ a,Fr n L a->Q .normal a w):WL P ops Q [] n L w:=h
def PanicQ (Q:Exit->Act->World->Prop):Prop:=∀ c (a:Act) (d:Option Tmp) (u:Value) w,Q (.panic c) (a.put d u) w->Q (.panic c) a w
theorem PanicQ.then {K:Act->World->Prop} (h:PanicQ Q):PanicQ (Exit.then K Q):=fun c a d u w k=>h c a d u w k
theorem PanicQ.block {id:Nat} (h:PanicQ Q):PanicQ (Exit.inBlock id Q):=fun c a d u w k=>h c a d u w k
theorem PanicQ.body {fn:Func} {R:Ending->World->Prop} :PanicQ (bodyPost P fn R):=fun c a d u w k=>⟨by have:=k.1;cases d <;> exact this,k.2⟩
theorem WC.seq {x y:Code} (h:∀ K:Act->World->Prop,(∀ L' w',WC P y Q n L' w'->∀ a,Fr n L' a->K a w')->WC P x (Exit.then K Q) n L w):WC P (.seq x y) Q n L w:=fun a ha=>
 wp_seq_k fun K hK=>h K (fun _ _ hy a ha=>hK _ _ (hy a ha)) a ha
theorem WC.cut {x y:Code} (Mid:Act->World->Prop) (h:WC P x (Exit.then Mid Q) n L w) (k:∀ a w,Mid a w->y.wp P Q a w):WC P (.seq x y) Q n L w:=fun a ha=>
 wp_seq_k fun K hK=>Code.wp_mono (fun e a w he=>by cases e <;> first | exact hK _ _ (k _ _ he) | exact he) (h a ha)
theorem WC.block {id:Nat} {c:Code} (h:WC P c (Exit.inBlock id Q) n L w):WC P (.block id c) Q n L w:=fun a ha=>wp_block (h a ha)
theorem WC.yes {c:Operand} {x y:Code} (hc:ev L c=some (.bool true)) (h:WC P x Q n L w):WC P (.cond c x y) Q n L w:=fun a ha=>wp_cond_true (ha.ev hc) (h a ha)
theorem WC.no {c:Operand} {x y:Code} (hc:ev L c=some (.bool false)) (h:WC P y Q n L w):WC P (.cond c x y) Q n L w:=fun a ha=>wp_cond_false (ha.ev hc) (h a ha)
theorem WC.skip (h:∀ a,Fr n L a->Q .normal a w):WC P .skip Q n L w:=fun a ha=>wp_skip (h a ha)
theorem WC.exit {id:Nat} (h:∀ a,Fr n L a->Q (.exit id) a w):WC P (.exit id) Q n L w:=fun a ha=>wp_exit (h a ha)
theorem WC.ret (h:∀ a,Fr n L a->Q .ret a w):WC P .ret Q n L w:=fun a ha=>wp_ret (h a ha)
theorem wp_loop_ex {T:Type} {c:Code} {a:Act} (I:T->Act->World->Prop) (μ:T->Nat) (s0:T) (h0:I s0 a w)
  (round:∀ s a w,I s a w->c.wp P (Exit.then (fun a' w'=>∃ s',I s' a' w'/\μ s'<μ s) Q) a w):(Code.loop c).wp P Q a w:=by
 let J:Act->World->Nat->Prop:=fun a w m=>∃ s,I s a w/\μ s=m
 have hmin:∀ a w,(∃ m,J a w m)->∃ m,J a w m/\∀ m',J a w m'->m<=m':=fun a w ⟨m,hm⟩=>by
  induction m using Nat.strongRecOn with
  | _ m ih=>
   by_cases h:∃ m',m'<m/\J a w m'
   ·obtain ⟨m',hlt,hj⟩:=h
    exact ih m' hlt hj
   ·refine ⟨m,hm,fun m' hm'=>?_⟩
    rcases Nat.lt_or_ge m' m with hl | hg
    ·exact absurd ⟨m',hl,hm'⟩ h
    ·exact hg
 let μ':Act->World->Nat:=fun a w=>open Classical in if h:∃ m,J a w m then (hmin a w h).choose else 0
 have hμ:∀ a w (h:∃ m,J a w m),μ' a w=(hmin a w h).choose:=fun a w h=>by simp only [μ',dif_pos h]
 refine wp_loop (fun a w=>∃ s,I s a w) μ' ⟨s0,h0⟩ ?_
 rintro a w ⟨s,hs⟩
 have hx:∃ m,J a w m:=⟨_,s,hs,rfl⟩
 obtain ⟨⟨t,ht,hte⟩,hmn⟩:=(hmin a w hx).choose_spec
 refine Code.wp_mono (fun e a' w' he=>?_) (round t a w ht)
 cases e <;> try exact he
 obtain ⟨s',hs',hlt⟩:=he
 have hx':∃ m,J a' w' m:=⟨_,s',hs',rfl⟩
 refine ⟨⟨s',hs'⟩,?_⟩
 rw [hμ a w hx,hμ a' w' hx',<- hte]
 exact Nat.lt_of_le_of_lt ((hmin a' w' hx').choose_spec.2 _ ⟨s',hs',rfl⟩) hlt
end
end Go.Proofs.Ytbjnmmgnonldnaa.E
