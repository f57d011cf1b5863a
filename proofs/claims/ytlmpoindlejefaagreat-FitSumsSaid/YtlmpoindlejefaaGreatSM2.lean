/- Plain facts of shifts and of the words of a loop: no program text. -/
import Derived.Test.YtlmpoindlejefaaGreatSM1
set_option linter.unusedVariables false
set_option linter.unusedSimpArgs false
namespace Go.Proofs.YtlmpoindlejefaaGreat.E
open Go Go.RowKit
section
variable {α β S R:Type}
theorem W.ret_r (a:α) (p:α->Prop):(W.ret a).run p=p a:=rfl
theorem W.bd {m:W α} {f:α->W β} {p:β->Prop} (h:m.run fun a=>(f a).run p):(W.bind m f).run p:=h
theorem W.req_i {c:Prop} {m:W α} {p:α->Prop} (hc:c) (h:m.run p):(W.req c m).run p:=⟨hc,h⟩
theorem W.loop_i {body:S->W (Ctl S R)} {s:S} {p:Lp S R->Prop} (I:S->Prop) (μ:S->Nat) (h0:I s) (h:∀ s,I s->(body s).run (Ctl.on (fun s'=>I s'/\μ s'<μ s) (fun s'=>p (.done s')) (fun r=>p (.out r)))):(W.loop body s).run p:=⟨I,μ,h0,h⟩
theorem W.loop_c {body:S->W (Ctl S R)} {s:S} {D:S->W β} {O:R->W β} {Q:β->Prop} (I:S->Prop) (μ:S->Nat) (h0:I s)
  (h:∀ s P,I s->(∀ s',I s'->μ s'<μ s->P (.go s'))->(∀ s',(D s').run Q->P (.brk s'))->(∀ r,(O r).run Q->P (.out r))->(body s).run P):(W.bind (W.loop body s) (Lp.on D O)).run Q:=
 ⟨I,μ,h0,fun s hs=>h s _ hs (fun s' a b=>⟨a,b⟩) (fun s' k=>k) (fun r k=>k)⟩
theorem W.run_if {c:Prop} [Decidable c] {a b:W α} {p:α->Prop} (h1:c->a.run p) (h2: ¬ c->b.run p):(if c then a else b).run p:=by
 split
 ·exact h1 ‹_›
 ·exact h2 ‹_›
end
theorem ishr_n (k:IntKind) (x:Int) (n:Nat) (h:n<=k.bits):ishr k x n=x / 2 ^ n:=by
 unfold ishr
 rw [Int.toNat_natCast,Nat.min_eq_left h]
 exact Int.fdiv_eq_ediv_of_nonneg _ (Int.le_of_lt (Int.pow_pos (by decide)))
theorem ishl_n (k:IntKind) (x:Int) (n:Nat) (h:n<=k.bits):ishl k x n=k.wrap (x*2 ^ n):=by
 unfold ishl
 rw [Int.toNat_natCast,Nat.min_eq_left h]
theorem ishr64_32 (x:Int):ishr .u64 x 32=x / 4294967296:=ishr_n .u64 x 32 (by decide)
theorem ishr64_63 (x:Int):ishr .u64 x 63=x / 9223372036854775808:=ishr_n .u64 x 63 (by decide)
theorem wrap_u64 (x:Int):IntKind.u64.wrap x=x % 18446744073709551616:=by simp [IntKind.wrap,IntKind.bits,IntKind.signed]
theorem wrap_u32 (x:Int):IntKind.u32.wrap x=x % 4294967296:=by simp [IntKind.wrap,IntKind.bits,IntKind.signed]
theorem wrap_i64 {x:Int} (h0: -9223372036854775808<=x) (h1:x<9223372036854775808):IntKind.i64.wrap x=x:=wrap_id (k:=.i64) (by show _/\_;omega)
theorem wrap64_is (x:Int):IntKind.i64.wrap x=(x+9223372036854775808) % 18446744073709551616 - 9223372036854775808:=by
 simp only [IntKind.wrap,IntKind.bits,IntKind.signed];simp;split <;> omega
theorem i64_iff {x:Int} :I64 x ↔ -9223372036854775808<=x/\x<=9223372036854775807:=Iff.rfl
theorem ishl64_32 {x:Int} (h0:0<=x) (h1:x<4294967296):ishl .u64 x 32=x*4294967296:=by
 have:=ishl_n .u64 x 32 (by decide)
 rw [wrap_u64] at this
 rw [show (32:Int)=((32:Nat):Int) from rfl,this]
 show (x*4294967296) % 18446744073709551616=_
 omega
theorem nat_or (a b n:Nat) (hb:b<2 ^ n):(a*2 ^ n) ||| b=a*2 ^ n+b:=by
 rw [Nat.mul_comm,Nat.two_pow_add_eq_or_of_lt hb]
theorem bv_nat {w:Nat} {x:Int} (h0:0<=x) (h1:x<2 ^ w):(BitVec.ofInt w x).toNat=x.toNat:=by
 rw [BitVec.toNat_ofInt]
 have:x % ((2 ^ w:Nat):Int)=x:=Int.emod_eq_of_lt h0 (by simpa using h1)
 rw [this]
theorem ior_sum64 {a b:Int} {n:Nat} (ha:0<=a) (hb:0<=b) (hbn:b<2 ^ n) (h:a*2 ^ n+b<18446744073709551616):ior .u64 (a*2 ^ n) b=a*2 ^ n+b:=by
 have hp:(0:Int)<2 ^ n:=Int.pow_pos (by decide)
 have h0:0<=a*2 ^ n:=Int.mul_nonneg ha (Int.le_of_lt hp)
 unfold ior
 have hw:(2:Int) ^ IntKind.u64.bits=18446744073709551616:=by decide
 rw [BitVec.toNat_or,bv_nat h0 (by rw [hw];omega),bv_nat hb (by rw [hw];omega),wrap_u64]
 obtain ⟨a',rfl⟩:=Int.eq_ofNat_of_zero_le ha
 obtain ⟨b',rfl⟩:=Int.eq_ofNat_of_zero_le hb
 have e:((a':Int)*2 ^ n).toNat=a'*2 ^ n:=by
  have:(a':Int)*2 ^ n=((a'*2 ^ n:Nat):Int):=by simp
  rw [this,Int.toNat_natCast]
 have hb':b'<2 ^ n:=by
  have:((b':Nat):Int)<((2 ^ n:Nat):Int):=by simpa using hbn
  exact Int.ofNat_lt.1 this
 rw [e,Int.toNat_natCast,nat_or _ _ _ hb']
 have:((a'*2 ^ n+b':Nat):Int)=(a':Int)*2 ^ n+b':=by simp
 rw [this]
 exact Int.emod_eq_of_lt (by omega) h
theorem ior_sum32 {a b:Int} {n:Nat} (ha:0<=a) (hb:0<=b) (hbn:b<2 ^ n) (h:a*2 ^ n+b<4294967296):ior .u32 (a*2 ^ n) b=a*2 ^ n+b:=by
 have hp:(0:Int)<2 ^ n:=Int.pow_pos (by decide)
 have h0:0<=a*2 ^ n:=Int.mul_nonneg ha (Int.le_of_lt hp)
 unfold ior
 have hw:(2:Int) ^ IntKind.u32.bits=4294967296:=by decide
 rw [BitVec.toNat_or,bv_nat h0 (by rw [hw];omega),bv_nat hb (by rw [hw];omega),wrap_u32]
 obtain ⟨a',rfl⟩:=Int.eq_ofNat_of_zero_le ha
 obtain ⟨b',rfl⟩:=Int.eq_ofNat_of_zero_le hb
 have e:((a':Int)*2 ^ n).toNat=a'*2 ^ n:=by
  have:(a':Int)*2 ^ n=((a'*2 ^ n:Nat):Int):=by simp
  rw [this,Int.toNat_natCast]
 have hb':b'<2 ^ n:=by
  have:((b':Nat):Int)<((2 ^ n:Nat):Int):=by simpa using hbn
  exact Int.ofNat_lt.1 this
 rw [e,Int.toNat_natCast,nat_or _ _ _ hb']
 have:((a'*2 ^ n+b':Nat):Int)=(a':Int)*2 ^ n+b':=by simp
 rw [this]
 exact Int.emod_eq_of_lt (by omega) h
theorem ior_comm (k:IntKind) (a b:Int):ior k a b=ior k b a:=by unfold ior;rw [BitVec.or_comm]
theorem ior64_32 {x y:Int} (h0:0<=x) (h1:x<4294967296) (h2:0<=y) (h3:y<4294967296):ior .u64 (ishl .u64 x 32) y=x*4294967296+y:=by
 rw [ishl64_32 h0 h1]
 exact ior_sum64 (n:=32) h0 h2 h3 (by show x*4294967296+y<_;omega)
theorem iand64_32 {x:Int} (h0:0<=x) (h1:x<18446744073709551616):iand .u64 x 4294967295=x % 4294967296:=by
 unfold iand
 have hw:(2:Int) ^ IntKind.u64.bits=18446744073709551616:=by decide
 rw [BitVec.toNat_and,bv_nat h0 (by rw [hw];omega),bv_nat (by decide) (by rw [hw];decide),wrap_u64]
 have:x.toNat &&& (4294967295:Int).toNat=x.toNat % 4294967296:=Nat.and_two_pow_sub_one_eq_mod x.toNat 32
 rw [this]
 omega
def trimB {R:Type} (p:List Int):W (Ctl (List Int) R):=
 if (p.length:Int)>0 then (W.req ((0:Int)<=((p.length:Int) - 1)/\((p.length:Int) - 1)<(p.length:Int)) (if (gi p ((p.length:Int) - 1))=0 then (W.req ((0:Int)<=((p.length:Int) - 1)/\((p.length:Int) - 1)<=(p.length:Int)) (W.ret (.go (p.take ((p.length:Int) - 1).toNat)))) else (W.ret (.brk p)))) else (W.ret (.brk p))
theorem trim_loop {R:Type} {l:List Int} {p:Lp (List Int) R->Prop} (hl:Wd (gn l)) (H:∀ r,Tr r->Wd (gn r)->wv r=wv l->r.length<=l.length->r=l.take r.length->p (.done r)):(W.loop (fun s=>trimB (R:=R) s) l).run p:=by
 refine W.loop_i (fun r=>Wd (gn r)/\wv r=wv l/\r.length<=l.length/\r=l.take r.length) (fun r=>r.length) ⟨hl,rfl,Nat.le_refl _,by simp⟩ ?_
 rintro r ⟨h1,h2,h3,h4⟩
 refine W.run_if (fun c=>W.req_i (by omega) (W.run_if (fun c2=>W.req_i (by omega) ?_) (fun c2=>?_))) (fun c=>?_)
 ·show _/\_
  have e:((r.length:Int) - 1).toNat=r.length - 1:=by omega
  rw [e]
  refine ⟨⟨h1.take _,?_,by rw [List.length_take];omega,?_⟩,by rw [List.length_take];omega⟩
  ·rw [wv_take _ (by omega),<- h2,wv]
   obtain ⟨n,hn⟩:∃ n,r.length=n+1:=⟨r.length - 1,by omega⟩
   rw [hn,sv,Nat.add_sub_cancel,Nat.zero_add]
   rw [gi_gn,e,hn,Nat.add_sub_cancel] at c2
   rw [c2]
   simp
  ·rw [List.length_take,Nat.min_eq_left (by omega)]
   have:=congrArg (List.take (r.length - 1)) h4
   rwa [List.take_take,Nat.min_eq_left (by omega)] at this
 ·refine H r (fun h0=>?_) h1 h2 h3 h4
  have e:((r.length:Int) - 1).toNat=r.length - 1:=by omega
  rwa [gi_gn,e] at c2
 ·have:r= []:=List.eq_nil_of_length_eq_zero (by omega)
  refine H r ?_ h1 h2 h3 h4
  rw [this]
  exact Tr.nil
end Go.Proofs.YtlmpoindlejefaaGreat.E
