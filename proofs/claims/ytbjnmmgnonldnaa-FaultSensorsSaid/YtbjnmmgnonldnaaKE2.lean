/- The engine, part 2: operations on plain values. No program text. -/
import Derived.Test.YtbjnmmgnonldnaaKE1
import Derived.WalkKit
import Derived.WalkSpells
namespace Go.Proofs.Ytbjnmmgnonldnaa.E
open Go Go.RowKit
abbrev InK (k:IntKind) (x:Int):Prop:=match k with
 | .i8=>-128<=x/\x<=127
 | .i16=>-32768<=x/\x<=32767
 | .i32=>-2147483648<=x/\x<=2147483647
 | .i64=>-9223372036854775808<=x/\x<=9223372036854775807
 | .u8=>0<=x/\x<=255
 | .u16=>0<=x/\x<=65535
 | .u32=>0<=x/\x<=4294967295
 | .u64=>0<=x/\x<=18446744073709551615
abbrev I64 (x:Int):Prop:=InK .i64 x
theorem wrap_in (k:IntKind) (x:Int):InK k (k.wrap x):=by
 cases k <;> simp only [InK,IntKind.wrap,IntKind.bits,IntKind.signed] <;> simp <;> (try split) <;> omega
theorem wrap_id {k:IntKind} {x:Int} (h:InK k x):k.wrap x=x:=by
 cases k <;> simp only [InK] at h <;> simp only [IntKind.wrap,IntKind.bits,IntKind.signed] <;> simp <;> (try split) <;> omega
theorem wrap_of_I64 {x:Int} (h:I64 x):IntKind.i64.wrap x=x:=wrap_id h
def iand (k:IntKind) (x y:Int):Int:=k.wrap ((BitVec.ofInt k.bits x &&& BitVec.ofInt k.bits y).toNat)
def ior (k:IntKind) (x y:Int):Int:=k.wrap ((BitVec.ofInt k.bits x ||| BitVec.ofInt k.bits y).toNat)
def ishl (k:IntKind) (x y:Int):Int:=k.wrap (x*2 ^ (min y.toNat k.bits))
def ishr (k:IntKind) (x y:Int):Int:=x.fdiv (2 ^ (min y.toNat k.bits))
theorem ior_in (k:IntKind) (x y:Int):InK k (ior k x y):=wrap_in _ _
theorem iand_in' (k:IntKind) (x y:Int):InK k (iand k x y):=wrap_in _ _
theorem ishl_in (k:IntKind) (x y:Int):InK k (ishl k x y):=wrap_in _ _
theorem ishr_in {k:IntKind} {x:Int} (h:InK k x) (y:Int):InK k (ishr k x y):=by
 unfold ishr
 have hp:(1:Int)<=2 ^ (min y.toNat k.bits):=by
  have:=Nat.one_le_two_pow (n:=min y.toNat k.bits)
  have h2:((2 ^ (min y.toNat k.bits):Nat):Int)=2 ^ (min y.toNat k.bits):=by simp
  omega
 generalize (2:Int) ^ (min y.toNat k.bits)=d at hp
 have hd:x.fdiv d=x / d:=Int.fdiv_eq_ediv_of_nonneg _ (by omega)
 rw [hd]
 have hb:(0<=x->0<=x / d/\x / d<=x)/\(x<0->x<=x / d/\x / d<0):=by
  constructor
  ·intro hx
   exact ⟨Int.ediv_nonneg hx (by omega),Int.ediv_le_self _ hx⟩
  ·intro hx
   refine ⟨?_,Int.ediv_neg_of_neg_of_pos hx (by omega)⟩
   rw [Int.le_ediv_iff_mul_le (by omega)]
   have:d*x<=1*x:=Int.mul_le_mul_of_nonpos_right hp (by omega)
   rw [Int.mul_comm]
   omega
 rcases Int.lt_or_le x 0 with hx | hx
 ·have:=hb.2 hx
  cases k <;> simp only [InK] at h |- <;> omega
 ·have:=hb.1 hx
  cases k <;> simp only [InK] at h |- <;> omega
theorem tmod_in {k:IntKind} {x y:Int} (hx:InK k x):InK k (x.tmod y):=by
 have h1:(0<=x->0<=x.tmod y/\x.tmod y<=x)/\(x<0->x<=x.tmod y/\x.tmod y<=0):=by
  constructor
  ·intro h
   refine ⟨Int.tmod_nonneg y h,?_⟩
   have:=Int.natAbs_tmod x y
   have h2:=Nat.mod_le x.natAbs y.natAbs
   have h3:=Int.tmod_nonneg y h
   omega
  ·intro h
   have:=Int.natAbs_tmod x y
   have h2:=Nat.mod_le x.natAbs y.natAbs
   have h3:(-x).tmod y= -(x.tmod y):=Int.neg_tmod ..
   have h4:=Int.tmod_nonneg (a:=-x) y (by omega)
   omega
 rcases Int.lt_or_le x 0 with h | h
 ·have:=h1.2 h
  cases k <;> simp only [InK] at hx |- <;> omega
 ·have:=h1.1 h
  cases k <;> simp only [InK] at hx |- <;> omega
section
variable {P:Program} {o:Oper} {n:Nat} {L:List (Nat×Value)} {w:World} {v:Value} {x y z:Operand} {T T':TypeId} {k k':IntKind} {p q:Int}
theorem o_mv (ho:o.op= .move x) (hx:ev L x=some v):OpV P o n L w v:=fun a ha=>by simp only [execOp,ho,ha.ev hx];rfl
theorem o_as (ho:o.op= .assign x) (hx:ev L x=some v):OpV P o n L w v:=fun a ha=>by simp only [execOp,ho,ha.ev hx];rfl
theorem o_pkt (ho:o.op= .pick x y z) (hx:ev L x=some (.bool true)) (hy:ev L y=some v):OpV P o n L w v:=fun a ha=>by simp only [execOp,ho,ha.ev hx,ha.ev hy];rfl
theorem o_pkf (ho:o.op= .pick x y z) (hx:ev L x=some (.bool false)) (hy:ev L z=some v):OpV P o n L w v:=fun a ha=>by simp only [execOp,ho,ha.ev hx,ha.ev hy];rfl
theorem bin_run {op:BinOp} (ho:o.op= .binOp op T x y T') (hx:ev L x=some (.int k p)) (hy:ev L y=some (.int k q)) (hr:(binOp op T (.int k p) (.int k q)).run P w= .ok v w):OpV P o n L w v:=fun a ha=>by
 simp only [execOp,ho,ha.ev hx,ha.ev hy,Sem.run_bind]
 have:(eqGuard op T x y (.int k p) (.int k q)).run P w= .ok () w:=by unfold eqGuard;cases op <;> rfl
 rw [this]
 simp only [Result.andThen_ok,hr]
 rfl
theorem o_add (ho:o.op= .binOp .add T x y T') (hx:ev L x=some (.int k p)) (hy:ev L y=some (.int k q)):OpV P o n L w (.int k (k.wrap (p+q))):=bin_run ho hx hy (by simp [binOp,Op.intArith])
theorem o_sub (ho:o.op= .binOp .sub T x y T') (hx:ev L x=some (.int k p)) (hy:ev L y=some (.int k q)):OpV P o n L w (.int k (k.wrap (p - q))):=bin_run ho hx hy (by simp [binOp,Op.intArith])
theorem o_addi (ho:o.op= .binOp .add T x y T') (hx:ev L x=some (.int .i64 p)) (hy:ev L y=some (.int .i64 q)) (h:I64 (p+q)):OpV P o n L w (.int .i64 (p+q)):=by have:=o_add (P:=P) (n:=n) (w:=w) ho hx hy;rwa [wrap_of_I64 h] at this
theorem o_subi (ho:o.op= .binOp .sub T x y T') (hx:ev L x=some (.int .i64 p)) (hy:ev L y=some (.int .i64 q)) (h:I64 (p - q)):OpV P o n L w (.int .i64 (p - q)):=by have:=o_sub (P:=P) (n:=n) (w:=w) ho hx hy;rwa [wrap_of_I64 h] at this
theorem o_quo (ho:o.op= .binOp .quo T x y T') (hx:ev L x=some (.int k p)) (hy:ev L y=some (.int k q)) (h:q≠0):OpV P o n L w (.int k (k.wrap (p.tdiv q))):=bin_run ho hx hy (by simp [binOp,Op.intDiv,h])
theorem o_quoi (ho:o.op= .binOp .quo T x y T') (hx:ev L x=some (.int .i64 p)) (hy:ev L y=some (.int .i64 q)) (h:q≠0) (hr:I64 (p.tdiv q)):OpV P o n L w (.int .i64 (p.tdiv q)):=by have:=o_quo (P:=P) (n:=n) (w:=w) ho hx hy h;rwa [wrap_of_I64 hr] at this
theorem o_rem (ho:o.op= .binOp .rem T x y T') (hx:ev L x=some (.int k p)) (hy:ev L y=some (.int k q)) (h:q≠0):OpV P o n L w (.int k (p.tmod q)):=bin_run ho hx hy (by simp [binOp,Op.intDiv,h])
theorem o_and (ho:o.op= .binOp .and T x y T') (hx:ev L x=some (.int k p)) (hy:ev L y=some (.int k q)):OpV P o n L w (.int k (iand k p q)):=bin_run ho hx hy (by simp [binOp,Op.intBits,iand])
theorem o_or (ho:o.op= .binOp .or T x y T') (hx:ev L x=some (.int k p)) (hy:ev L y=some (.int k q)):OpV P o n L w (.int k (ior k p q)):=bin_run ho hx hy (by simp [binOp,Op.intBits,ior])
theorem o_shl (ho:o.op= .binOp .shl T x y T') (hx:ev L x=some (.int k p)) (hy:ev L y=some (.int k' q)) (h:0<=q):OpV P o n L w (.int k (ishl k p q)):=fun a ha=>by
 have h': ¬ q<0:=by omega
 simp only [execOp,ho,ha.ev hx,ha.ev hy,Sem.run_bind]
 have:(eqGuard .shl T x y (.int k p) (.int k' q)).run P w= .ok () w:=rfl
 rw [this]
 simp [binOp,Op.shift,h',ishl]
theorem o_shr (ho:o.op= .binOp .shr T x y T') (hx:ev L x=some (.int k p)) (hy:ev L y=some (.int k' q)) (h:0<=q):OpV P o n L w (.int k (ishr k p q)):=fun a ha=>by
 have h': ¬ q<0:=by omega
 simp only [execOp,ho,ha.ev hx,ha.ev hy,Sem.run_bind]
 have:(eqGuard .shr T x y (.int k p) (.int k' q)).run P w= .ok () w:=rfl
 rw [this]
 simp [binOp,Op.shift,h',ishr]
theorem o_eq (ho:o.op= .binOp .eql T x y T') (hx:ev L x=some (.int k p)) (hy:ev L y=some (.int k q)):OpV P o n L w (.bool (decide (p=q))):=bin_run ho hx hy (by simp [binOp,Op.intCmp];by_cases h:p=q <;> simp [h])
theorem o_ne (ho:o.op= .binOp .neq T x y T') (hx:ev L x=some (.int k p)) (hy:ev L y=some (.int k q)):OpV P o n L w (.bool (decide (p≠q))):=bin_run ho hx hy (by simp [binOp,Op.intCmp];by_cases h:p=q <;> simp [h])
theorem o_lt (ho:o.op= .binOp .lss T x y T') (hx:ev L x=some (.int k p)) (hy:ev L y=some (.int k q)):OpV P o n L w (.bool (decide (p<q))):=bin_run ho hx hy (by simp [binOp,Op.intCmp])
theorem o_le (ho:o.op= .binOp .leq T x y T') (hx:ev L x=some (.int k p)) (hy:ev L y=some (.int k q)):OpV P o n L w (.bool (decide (p<=q))):=bin_run ho hx hy (by simp [binOp,Op.intCmp])
theorem o_gt (ho:o.op= .binOp .gtr T x y T') (hx:ev L x=some (.int k p)) (hy:ev L y=some (.int k q)):OpV P o n L w (.bool (decide (p>q))):=bin_run ho hx hy (by simp [binOp,Op.intCmp])
theorem o_ge (ho:o.op= .binOp .geq T x y T') (hx:ev L x=some (.int k p)) (hy:ev L y=some (.int k q)):OpV P o n L w (.bool (decide (p>=q))):=bin_run ho hx hy (by simp [binOp,Op.intCmp])
theorem o_not {b:Bool} (ho:o.op= .unOp .not T x) (hx:ev L x=some (.bool b)):OpV P o n L w (.bool (!b)):=fun a ha=>by simp only [execOp,ho,ha.ev hx,Op.unary];rfl
def mn (x y:Int):Int:=if y<x then y else x
theorem mn_or (x y:Int):mn x y=x/\x<=y\/mn x y=y/\y<=x:=by unfold mn;split <;> omega
theorem mn_in (k:IntKind) {x y:Int} (hx:InK k x) (hy:InK k y):InK k (mn x y):=by unfold mn;split <;> assumption
theorem o_len {c:Call} {A:Option Addr} {m cap:Nat} {e:TypeId} (ho:o.op= .call c) (hc:c.callee= .builtin .len) (has:c.args= #[x]) (hat:c.argTypes= #[T]) (hu:P.underlying T=some (.slice e)) (hx:ev L x=some (.slice A m cap)):OpV P o n L w (.int .i64 (m:Int)):=fun a ha=>by
 simp only [execOp,ho,resolve,hc,has,hat,List.map_toArray,List.map_cons,List.map_nil,ha.ev hx,invoke,builtin,Sem.run_bind,Sem.run_pure,Result.andThen_ok,Builtin.len_]
 simp [run_underlying hu,goInt]
theorem o_ex {vs:Array Value} {i:Nat} (ho:o.op= .extract x i) (hx:ev L x=some (.tuple vs)) (hv:vs[i]? =some v):OpV P o n L w v:=fun a ha=>by
 simp only [execOp,ho,ha.ev hx,Instr.extract,hv]
 rfl
theorem eqin_nil {A:Option Addr} {m c m' c':Nat} {e:TypeId} (hu:P.underlying T=some (.slice e)) (d:Nat):(Op.equalIn (d+1) T (.slice A m c) (.slice none m' c')).run P w= .ok A.isNone w:=by
 cases A <;> simp [Op.equalIn,run_underlying hu]
theorem eqin_bool {b c:Bool} (hu:P.underlying T=some .bool) (d:Nat):(Op.equalIn (d+1) T (.bool b) (.bool c)).run P w= .ok (b == c) w:=by
 simp [Op.equalIn,run_underlying hu]
theorem equal_run {u v:Value} {r:Bool} (h:∀ d,(Op.equalIn (d+1) T u v).run P w= .ok r w):(Op.equal T u v).run P w= .ok r w:=h 9999
theorem o_nile {A:Option Addr} {m c m' c':Nat} {e:TypeId} (ho:o.op= .binOp .eql T x y T') (hu:P.underlying T=some (.slice e)) (hx:ev L x=some (.slice A m c)) (hy:ev L y=some (.slice none m' c')):OpV P o n L w (.bool A.isNone):=fun a ha=>by
 simp only [execOp,ho,ha.ev hx,ha.ev hy,Sem.run_bind]
 have:(eqGuard .eql T x y (.slice A m c) (.slice none m' c')).run P w= .ok () w:=rfl
 rw [this]
 simp only [Result.andThen_ok,binOp,Sem.run_bind,equal_run (eqin_nil hu),Sem.run_pure]
theorem o_beq {b c:Bool} (ho:o.op= .binOp .eql T x y T') (hu:P.underlying T=some .bool) (hx:ev L x=some (.bool b)) (hy:ev L y=some (.bool c)):OpV P o n L w (.bool (b == c)):=fun a ha=>by
 simp only [execOp,ho,ha.ev hx,ha.ev hy,Sem.run_bind]
 have:(eqGuard .eql T x y (.bool b) (.bool c)).run P w= .ok () w:=rfl
 rw [this]
 simp only [Result.andThen_ok,binOp,Sem.run_bind,equal_run (eqin_bool hu),Sem.run_pure]
theorem o_fa {i b off s:Nat} {fs:Array Field} {f:Field} (ho:o.op= .fieldAddr T x i) (hu:P.underlying T=some (.struct fs)) (hf:fs[i]? =some f) (hs:(P.info? f.type).map (·.size)=some (s+1)) (hx:ev L x=some (.pointer (some ⟨b,off,none⟩))) :
  OpV P o n L w (.pointer (some ⟨b,off+f.offset,none⟩)):=fun a ha=>by
 obtain ⟨inf,hi,hz⟩:=Option.map_eq_some_iff.1 hs
 simp only [execOp,ho,ha.ev hx,Instr.fieldAt,Sem.run_bind,run_underlying hu,Result.andThen_ok,hf,Instr.sureAddr,Sem.run_pure,fieldPlace,sizeOf,typeInfo,run_program,hi,hz]
 have hadd:(⟨b,off,none⟩:Addr).add f.offset= ⟨b,off+f.offset,none⟩:=by unfold Addr.add;split <;> simp_all
 simp [hadd]
theorem o_ia {b off m c s:Nat} {i:Int} {e:TypeId} (ho:o.op= .indexAddr T x y) (hu:P.underlying T=some (.slice e)) (hs:(P.info? e).map (·.size)=some s) (hx:ev L x=some (.slice (some ⟨b,off,none⟩) m c)) (hy:ev L y=some (.int k i)) (h0:0<=i) (h1:i<m) :
  OpV P o n L w (.pointer (some ⟨b,off+i.toNat*s,none⟩)):=fun a ha=>by
 obtain ⟨inf,hi,hz⟩:=Option.map_eq_some_iff.1 hs
 simp only [execOp,ho,ha.ev hx,ha.ev hy,Instr.indexAt,asIntOf,Sem.run_bind,Sem.run_pure,Result.andThen_ok,run_underlying hu]
 have hadd:(⟨b,off,none⟩:Addr).add (i.toNat*s)= ⟨b,off+i.toNat*s,none⟩:=by unfold Addr.add;split <;> simp_all
 simp [h0,h1,sizeOf,typeInfo,hi,hz,hadd]
end
end Go.Proofs.Ytbjnmmgnonldnaa.E
