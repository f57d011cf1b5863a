/- Kinds of structs. -/
import Derived.Test.YtlmpoindlejefaaQE11
set_option linter.unusedVariables false
set_option linter.unusedSimpArgs false
set_option maxRecDepth 100000
namespace Go.Proofs.Ytlmpoindlejefaa.E
open Go Go.RowKit
structure zn where
 N:Int
 D:Int
instance:Inhabited zn:=⟨⟨0,0⟩⟩
instance:DecidableEq zn:=fun a b=>decidable_of_iff (a.N=b.N/\a.D=b.D) (by cases a;cases b;simp)
def zK:Kd zn where
 sz:=2
 R M w x cs:=cs= [.int .i64 x.N,.int .i64 x.D]/\InK .i64 x.N/\InK .i64 x.D
 len h:=by obtain ⟨rfl,h0,h1⟩:=h;rfl
 one h u hu:=by
  obtain ⟨rfl,h0,h1⟩:=h;skip
  simp only [List.mem_cons,List.not_mem_nil,or_false] at hu
  rcases hu with rfl | rfl
  ·rfl
  ·rfl
 to h k:=by obtain ⟨rfl,h0,h1⟩:=h;exact ⟨rfl,h0,h1⟩
theorem zD2 (M:Nat->Prop) (w:World):zK.R M w (⟨0,0⟩:zn) [.int .i64 0,.int .i64 0]:=⟨rfl,by simp [InK],by simp [InK]⟩
theorem zBm {M:Nat->Prop} {w:World} {x:zn} {u0 u1:Value} (h:zK.R M w x [u0,u1]):u0= .int .i64 x.N/\u1= .int .i64 x.D/\InK .i64 x.N/\InK .i64 x.D:=by
 obtain ⟨hq,h0,h1⟩:=h
 simp only [List.cons.injEq,and_true] at hq
 obtain ⟨rfl,rfl⟩:=hq
 exact ⟨rfl,rfl,h0,h1⟩
structure zAS where
 R:Int
 C:Int
 V:(List zn)
instance:Inhabited zAS:=⟨⟨0,0,[]⟩⟩
def zAn:Kd zAS where
 sz:=3
 R M w x cs:=∃ (A2:Option Addr) (c2:Nat),cs= [.int .i64 x.R,.int .i64 x.C,.slice A2 x.V.length c2]/\InK .i64 x.R/\InK .i64 x.C/\x.V.length<=c2/\x.V.length<=281474976710656/\Rd zK M w A2 x.V
 len h:=by obtain ⟨A2,c2,rfl,h0,h1,h2,h3,h4⟩:=h;rfl
 one h u hu:=by
  obtain ⟨A2,c2,rfl,h0,h1,h2,h3,h4⟩:=h;skip
  simp only [List.mem_cons,List.not_mem_nil,or_false] at hu
  rcases hu with rfl | rfl | rfl
  ·rfl
  ·rfl
  ·rfl
 to h k:=by obtain ⟨A2,c2,rfl,h0,h1,h2,h3,h4⟩:=h;exact ⟨A2,c2,rfl,h0,h1,h2,h3,h4.to k⟩
theorem k_api_Mat_zero (M:Nat->Prop) (w:World):zAn.R M w (⟨0,0,[]⟩:zAS) [.int .i64 0,.int .i64 0,.slice none 0 0]:=⟨none,0,rfl,by simp [InK],by simp [InK],Nat.le_refl _,Nat.zero_le _,.inl rfl⟩
theorem zCD {M:Nat->Prop} {w:World} {x:zAS} {u0 u1 u2:Value} (h:zAn.R M w x [u0,u1,u2]):∃ (A1:Option Addr) (c1:Nat),u0= .int .i64 x.R/\u1= .int .i64 x.C/\u2= .slice A1 x.V.length c1/\InK .i64 x.R/\InK .i64 x.C/\x.V.length<=c1/\x.V.length<=281474976710656/\Rd zK M w A1 x.V:=by
 obtain ⟨a2,b2,hq,h0,h1,h2_0,h2_1,h2_2⟩:=h
 simp only [List.cons.injEq,and_true] at hq
 obtain ⟨rfl,rfl,rfl⟩:=hq
 exact ⟨_,_,rfl,rfl,rfl,h0,h1,h2_0,h2_1,h2_2⟩
structure zAL where
 v:Int
 m:(List Int)
 neg:Bool
instance:Inhabited zAL:=⟨⟨0,[],false⟩⟩
def zAG:Kd zAL where
 sz:=3
 R M w x cs:=∃ (A1:Option Addr) (c1:Nat),cs= [.int .i64 x.v,.slice A1 x.m.length c1,.bool x.neg]/\InK .i64 x.v/\x.m.length<=c1/\x.m.length<=281474976710656/\Rd (Kd.int .u32) M w A1 x.m/\(x.m= [] ↔ A1=none)
 len h:=by obtain ⟨A1,c1,rfl,h0,h1,h2,h3,h4⟩:=h;rfl
 one h u hu:=by
  obtain ⟨A1,c1,rfl,h0,h1,h2,h3,h4⟩:=h;skip
  simp only [List.mem_cons,List.not_mem_nil,or_false] at hu
  rcases hu with rfl | rfl | rfl
  ·rfl
  ·rfl
  ·rfl
 to h k:=by obtain ⟨A1,c1,rfl,h0,h1,h2,h3,h4⟩:=h;exact ⟨A1,c1,rfl,h0,h1,h2,h3.to k,h4⟩
theorem zAj (M:Nat->Prop) (w:World):zAG.R M w (⟨0,[],false⟩:zAL) [.int .i64 0,.slice none 0 0,.bool false]:=⟨none,0,rfl,by simp [InK],Nat.le_refl _,Nat.zero_le _,.inl rfl,⟨fun _=>rfl,fun _=>rfl⟩⟩
theorem zBT {M:Nat->Prop} {w:World} {x:zAL} {u0 u1 u2:Value} (h:zAG.R M w x [u0,u1,u2]):∃ (A1:Option Addr) (c1:Nat),u0= .int .i64 x.v/\u1= .slice A1 x.m.length c1/\u2= .bool x.neg/\InK .i64 x.v/\x.m.length<=c1/\x.m.length<=281474976710656/\Rd (Kd.int .u32) M w A1 x.m/\(x.m= [] ↔ A1=none):=by
 obtain ⟨a1,b1,hq,h0,h1_0,h1_1,h1_2,h1_3⟩:=h
 simp only [List.cons.injEq,and_true] at hq
 obtain ⟨rfl,rfl,rfl⟩:=hq
 exact ⟨_,_,rfl,rfl,rfl,h0,h1_0,h1_1,h1_2,h1_3⟩
structure zAF where
 N:zAL
 D:zAL
instance:Inhabited zAF:=⟨⟨default,default⟩⟩
def zAC:Kd zAF where
 sz:=6
 R M w x cs:=∃ (u0_0:Value) (u0_1:Value) (u0_2:Value) (u1_0:Value) (u1_1:Value) (u1_2:Value),cs= [u0_0,u0_1,u0_2,u1_0,u1_1,u1_2]/\zAG.R M w x.N [u0_0,u0_1,u0_2]/\zAG.R M w x.D [u1_0,u1_1,u1_2]
 len h:=by obtain ⟨u0_0,u0_1,u0_2,u1_0,u1_1,u1_2,rfl,h0,h1⟩:=h;rfl
 one h u hu:=by
  obtain ⟨u0_0,u0_1,u0_2,u1_0,u1_1,u1_2,rfl,h0,h1⟩:=h;skip
  simp only [List.mem_cons,List.not_mem_nil,or_false] at hu
  rcases hu with rfl | rfl | rfl | rfl | rfl | rfl
  ·exact zAG.one h0 _ (by simp)
  ·exact zAG.one h0 _ (by simp)
  ·exact zAG.one h0 _ (by simp)
  ·exact zAG.one h1 _ (by simp)
  ·exact zAG.one h1 _ (by simp)
  ·exact zAG.one h1 _ (by simp)
 to h k:=by obtain ⟨u0_0,u0_1,u0_2,u1_0,u1_1,u1_2,rfl,h0,h1⟩:=h;exact ⟨u0_0,u0_1,u0_2,u1_0,u1_1,u1_2,rfl,zAG.to h0 k,zAG.to h1 k⟩
theorem zB6 (M:Nat->Prop) (w:World):zAC.R M w (⟨(⟨0,[],false⟩:zAL),(⟨0,[],false⟩:zAL)⟩:zAF) [.int .i64 0,.slice none 0 0,.bool false,.int .i64 0,.slice none 0 0,.bool false]:=⟨_,_,_,_,_,_,rfl,zAj _ _,zAj _ _⟩
theorem zBz {M:Nat->Prop} {w:World} {x:zAF} {u0 u1 u2 u3 u4 u5:Value} (h:zAC.R M w x [u0,u1,u2,u3,u4,u5]):∃ (A1:Option Addr) (c1:Nat) (A2:Option Addr) (c2:Nat),u0= .int .i64 x.N.v/\u1= .slice A1 x.N.m.length c1/\u2= .bool x.N.neg/\u3= .int .i64 x.D.v/\u4= .slice A2 x.D.m.length c2/\u5= .bool x.D.neg/\zAG.R M w x.N [.int .i64 x.N.v,.slice A1 x.N.m.length c1,.bool x.N.neg]/\InK .i64 x.N.v/\x.N.m.length<=c1/\x.N.m.length<=281474976710656/\Rd (Kd.int .u32) M w A1 x.N.m/\(x.N.m= [] ↔ A1=none)/\zAG.R M w x.D [.int .i64 x.D.v,.slice A2 x.D.m.length c2,.bool x.D.neg]/\InK .i64 x.D.v/\x.D.m.length<=c2/\x.D.m.length<=281474976710656/\Rd (Kd.int .u32) M w A2 x.D.m/\(x.D.m= [] ↔ A2=none):=by
 obtain ⟨s0_0,s0_1,s0_2,s1_0,s1_1,s1_2,hq,h0,h1⟩:=h
 simp only [List.cons.injEq,and_true] at hq
 obtain ⟨rfl,rfl,rfl,rfl,rfl,rfl⟩:=hq
 have k0:=h0
 obtain ⟨v0_0,v0_1,rfl,rfl,rfl,f0_0,f0_1,f0_2,f0_3,f0_4⟩:=zBT h0
 have k1:=h1
 obtain ⟨v1_0,v1_1,rfl,rfl,rfl,f1_0,f1_1,f1_2,f1_3,f1_4⟩:=zBT h1
 exact ⟨_,_,_,_,rfl,rfl,rfl,rfl,rfl,rfl,k0,f0_0,f0_1,f0_2,f0_3,f0_4,k1,f1_0,f1_1,f1_2,f1_3,f1_4⟩
structure zAf where
 n:Int
 m:(List (List zAF))
 v:(List zAF)
 q:zAF
instance:Inhabited zAf:=⟨⟨0,[],[],default⟩⟩
def zC7:Kd zAf where
 sz:=9
 R M w x cs:=∃ (A1:Option Addr) (c1:Nat) (A2:Option Addr) (c2:Nat) (u3_0:Value) (u3_1:Value) (u3_2:Value) (u3_3:Value) (u3_4:Value) (u3_5:Value),cs= [.int .i64 x.n,.slice A1 x.m.length c1,.slice A2 x.v.length c2,u3_0,u3_1,u3_2,u3_3,u3_4,u3_5]/\InK .i64 x.n/\x.m.length<=c1/\x.m.length<=281474976710656/\Rd (Kd.slice zAC) M w A1 x.m/\x.v.length<=c2/\x.v.length<=281474976710656/\Rd zAC M w A2 x.v/\zAC.R M w x.q [u3_0,u3_1,u3_2,u3_3,u3_4,u3_5]
 len h:=by obtain ⟨A1,c1,A2,c2,u3_0,u3_1,u3_2,u3_3,u3_4,u3_5,rfl,h0,h1,h2,h3,h4,h5,h6,h7⟩:=h;rfl
 one h u hu:=by
  obtain ⟨A1,c1,A2,c2,u3_0,u3_1,u3_2,u3_3,u3_4,u3_5,rfl,h0,h1,h2,h3,h4,h5,h6,h7⟩:=h;skip
  simp only [List.mem_cons,List.not_mem_nil,or_false] at hu
  rcases hu with rfl | rfl | rfl | rfl | rfl | rfl | rfl | rfl | rfl
  ·rfl
  ·rfl
  ·rfl
  ·exact zAC.one h7 _ (by simp)
  ·exact zAC.one h7 _ (by simp)
  ·exact zAC.one h7 _ (by simp)
  ·exact zAC.one h7 _ (by simp)
  ·exact zAC.one h7 _ (by simp)
  ·exact zAC.one h7 _ (by simp)
 to h k:=by obtain ⟨A1,c1,A2,c2,u3_0,u3_1,u3_2,u3_3,u3_4,u3_5,rfl,h0,h1,h2,h3,h4,h5,h6,h7⟩:=h;exact ⟨A1,c1,A2,c2,u3_0,u3_1,u3_2,u3_3,u3_4,u3_5,rfl,h0,h1,h2,h3.to k,h4,h5,h6.to k,zAC.to h7 k⟩
theorem zIl (M:Nat->Prop) (w:World):zC7.R M w (⟨0,[],[],(⟨(⟨0,[],false⟩:zAL),(⟨0,[],false⟩:zAL)⟩:zAF)⟩:zAf) [.int .i64 0,.slice none 0 0,.slice none 0 0,.int .i64 0,.slice none 0 0,.bool false,.int .i64 0,.slice none 0 0,.bool false]:=⟨none,0,none,0,_,_,_,_,_,_,rfl,by simp [InK],Nat.le_refl _,Nat.zero_le _,.inl rfl,Nat.le_refl _,Nat.zero_le _,.inl rfl,zB6 _ _⟩
theorem zHf {M:Nat->Prop} {w:World} {x:zAf} {u0 u1 u2 u3 u4 u5 u6 u7 u8:Value} (h:zC7.R M w x [u0,u1,u2,u3,u4,u5,u6,u7,u8]):∃ (A1:Option Addr) (c1:Nat) (A2:Option Addr) (c2:Nat) (A3:Option Addr) (c3:Nat) (A4:Option Addr) (c4:Nat),u0= .int .i64 x.n/\u1= .slice A1 x.m.length c1/\u2= .slice A2 x.v.length c2/\u3= .int .i64 x.q.N.v/\u4= .slice A3 x.q.N.m.length c3/\u5= .bool x.q.N.neg/\u6= .int .i64 x.q.D.v/\u7= .slice A4 x.q.D.m.length c4/\u8= .bool x.q.D.neg/\InK .i64 x.n/\x.m.length<=c1/\x.m.length<=281474976710656/\Rd (Kd.slice zAC) M w A1 x.m/\x.v.length<=c2/\x.v.length<=281474976710656/\Rd zAC M w A2 x.v/\zAC.R M w x.q [.int .i64 x.q.N.v,.slice A3 x.q.N.m.length c3,.bool x.q.N.neg,.int .i64 x.q.D.v,.slice A4 x.q.D.m.length c4,.bool x.q.D.neg]/\zAG.R M w x.q.N [.int .i64 x.q.N.v,.slice A3 x.q.N.m.length c3,.bool x.q.N.neg]/\InK .i64 x.q.N.v/\x.q.N.m.length<=c3/\x.q.N.m.length<=281474976710656/\Rd (Kd.int .u32) M w A3 x.q.N.m/\(x.q.N.m= [] ↔ A3=none)/\zAG.R M w x.q.D [.int .i64 x.q.D.v,.slice A4 x.q.D.m.length c4,.bool x.q.D.neg]/\InK .i64 x.q.D.v/\x.q.D.m.length<=c4/\x.q.D.m.length<=281474976710656/\Rd (Kd.int .u32) M w A4 x.q.D.m/\(x.q.D.m= [] ↔ A4=none):=by
 obtain ⟨a1,b1,a2,b2,s3_0,s3_1,s3_2,s3_3,s3_4,s3_5,hq,h0,h1_0,h1_1,h1_2,h2_0,h2_1,h2_2,h3⟩:=h
 simp only [List.cons.injEq,and_true] at hq
 obtain ⟨rfl,rfl,rfl,rfl,rfl,rfl,rfl,rfl,rfl⟩:=hq
 have k3:=h3
 obtain ⟨v3_0,v3_1,v3_2,v3_3,rfl,rfl,rfl,rfl,rfl,rfl,f3_0,f3_1,f3_2,f3_3,f3_4,f3_5,f3_6,f3_7,f3_8,f3_9,f3_10,f3_11⟩:=zBz h3
 exact ⟨_,_,_,_,_,_,_,_,rfl,rfl,rfl,rfl,rfl,rfl,rfl,rfl,rfl,h0,h1_0,h1_1,h1_2,h2_0,h2_1,h2_2,k3,f3_0,f3_1,f3_2,f3_3,f3_4,f3_5,f3_6,f3_7,f3_8,f3_9,f3_10,f3_11⟩
structure zAD where
 d:(List Int)
 minus:Bool
instance:Inhabited zAD:=⟨⟨[],false⟩⟩
def zAB:Kd zAD where
 sz:=2
 R M w x cs:=∃ (A0:Option Addr) (c0:Nat),cs= [.slice A0 x.d.length c0,.bool x.minus]/\x.d.length<=c0/\x.d.length<=281474976710656/\Rd (Kd.int .u32) M w A0 x.d
 len h:=by obtain ⟨A0,c0,rfl,h0,h1,h2⟩:=h;rfl
 one h u hu:=by
  obtain ⟨A0,c0,rfl,h0,h1,h2⟩:=h;skip
  simp only [List.mem_cons,List.not_mem_nil,or_false] at hu
  rcases hu with rfl | rfl
  ·rfl
  ·rfl
 to h k:=by obtain ⟨A0,c0,rfl,h0,h1,h2⟩:=h;exact ⟨A0,c0,rfl,h0,h1,h2.to k⟩
theorem zA6 (M:Nat->Prop) (w:World):zAB.R M w (⟨[],false⟩:zAD) [.slice none 0 0,.bool false]:=⟨none,0,rfl,Nat.le_refl _,Nat.zero_le _,.inl rfl⟩
theorem zAY {M:Nat->Prop} {w:World} {x:zAD} {u0 u1:Value} (h:zAB.R M w x [u0,u1]):∃ (A1:Option Addr) (c1:Nat),u0= .slice A1 x.d.length c1/\u1= .bool x.minus/\x.d.length<=c1/\x.d.length<=281474976710656/\Rd (Kd.int .u32) M w A1 x.d:=by
 obtain ⟨a0,b0,hq,h0_0,h0_1,h0_2⟩:=h
 simp only [List.cons.injEq,and_true] at hq
 obtain ⟨rfl,rfl⟩:=hq
 exact ⟨_,_,rfl,rfl,h0_0,h0_1,h0_2⟩
structure zp where
 n:zAD
 d:zAD
instance:Inhabited zp:=⟨⟨default,default⟩⟩
def zAA:Kd zp where
 sz:=4
 R M w x cs:=∃ (u0_0:Value) (u0_1:Value) (u1_0:Value) (u1_1:Value),cs= [u0_0,u0_1,u1_0,u1_1]/\zAB.R M w x.n [u0_0,u0_1]/\zAB.R M w x.d [u1_0,u1_1]
 len h:=by obtain ⟨u0_0,u0_1,u1_0,u1_1,rfl,h0,h1⟩:=h;rfl
 one h u hu:=by
  obtain ⟨u0_0,u0_1,u1_0,u1_1,rfl,h0,h1⟩:=h;skip
  simp only [List.mem_cons,List.not_mem_nil,or_false] at hu
  rcases hu with rfl | rfl | rfl | rfl
  ·exact zAB.one h0 _ (by simp)
  ·exact zAB.one h0 _ (by simp)
  ·exact zAB.one h1 _ (by simp)
  ·exact zAB.one h1 _ (by simp)
 to h k:=by obtain ⟨u0_0,u0_1,u1_0,u1_1,rfl,h0,h1⟩:=h;exact ⟨u0_0,u0_1,u1_0,u1_1,rfl,zAB.to h0 k,zAB.to h1 k⟩
theorem zBL (M:Nat->Prop) (w:World):zAA.R M w (⟨(⟨[],false⟩:zAD),(⟨[],false⟩:zAD)⟩:zp) [.slice none 0 0,.bool false,.slice none 0 0,.bool false]:=⟨_,_,_,_,rfl,zA6 _ _,zA6 _ _⟩
theorem zAb {M:Nat->Prop} {w:World} {x:zp} {u0 u1 u2 u3:Value} (h:zAA.R M w x [u0,u1,u2,u3]):∃ (A1:Option Addr) (c1:Nat) (A2:Option Addr) (c2:Nat),u0= .slice A1 x.n.d.length c1/\u1= .bool x.n.minus/\u2= .slice A2 x.d.d.length c2/\u3= .bool x.d.minus/\zAB.R M w x.n [.slice A1 x.n.d.length c1,.bool x.n.minus]/\x.n.d.length<=c1/\x.n.d.length<=281474976710656/\Rd (Kd.int .u32) M w A1 x.n.d/\zAB.R M w x.d [.slice A2 x.d.d.length c2,.bool x.d.minus]/\x.d.d.length<=c2/\x.d.d.length<=281474976710656/\Rd (Kd.int .u32) M w A2 x.d.d:=by
 obtain ⟨s0_0,s0_1,s1_0,s1_1,hq,h0,h1⟩:=h
 simp only [List.cons.injEq,and_true] at hq
 obtain ⟨rfl,rfl,rfl,rfl⟩:=hq
 have k0:=h0
 obtain ⟨v0_0,v0_1,rfl,rfl,f0_0,f0_1,f0_2⟩:=zAY h0
 have k1:=h1
 obtain ⟨v1_0,v1_1,rfl,rfl,f1_0,f1_1,f1_2⟩:=zAY h1
 exact ⟨_,_,_,_,rfl,rfl,rfl,rfl,k0,f0_0,f0_1,f0_2,k1,f1_0,f1_1,f1_2⟩
end Go.Proofs.Ytlmpoindlejefaa.E
