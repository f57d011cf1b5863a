/- Kinds of structs. -/
import Derived.Test.YtlmpoindlejefaaBE11
set_option linter.unusedVariables false
set_option linter.unusedSimpArgs false
set_option maxRecDepth 100000
namespace Go.Proofs.Ytlmpoindlejefaa.E
open Go Go.RowKit
structure zAC where
 N:Int
 D:Int
instance:Inhabited zAC:=⟨⟨0,0⟩⟩
instance:DecidableEq zAC:=fun a b=>decidable_of_iff (a.N=b.N/\a.D=b.D) (by cases a;cases b;simp)
def zAA:Kd zAC where
 sz:=2
 R M w x cs:=cs= [.int .i64 x.N,.int .i64 x.D]/\InK .i64 x.N/\InK .i64 x.D
 len h:=by obtain ⟨rfl,h0,h1⟩:=h;rfl
 one h u hu:=by
  obtain ⟨rfl,h0,h1⟩:=h;skip
  simp only [List.mem_cons,List.not_mem_nil,or_false] at hu
  rcases hu with rfl | rfl
  ·rfl
  ·rfl
 to h k:=by obtain ⟨rfl,h0,h1⟩:=h;exact ⟨rfl,h0,h1⟩
theorem zGs (M:Nat->Prop) (w:World):zAA.R M w (⟨0,0⟩:zAC) [.int .i64 0,.int .i64 0]:=⟨rfl,by simp [InK],by simp [InK]⟩
theorem zDH {M:Nat->Prop} {w:World} {x:zAC} {u0 u1:Value} (h:zAA.R M w x [u0,u1]):u0= .int .i64 x.N/\u1= .int .i64 x.D/\InK .i64 x.N/\InK .i64 x.D:=by
 obtain ⟨hq,h0,h1⟩:=h
 simp only [List.cons.injEq,and_true] at hq
 obtain ⟨rfl,rfl⟩:=hq
 exact ⟨rfl,rfl,h0,h1⟩
structure zAh where
 R:Int
 C:Int
 V:(List zAC)
instance:Inhabited zAh:=⟨⟨0,0,[]⟩⟩
def zHm:Kd zAh where
 sz:=3
 R M w x cs:=∃ (A2:Option Addr) (c2:Nat),cs= [.int .i64 x.R,.int .i64 x.C,.slice A2 x.V.length c2]/\InK .i64 x.R/\InK .i64 x.C/\x.V.length<=c2/\x.V.length<=281474976710656/\Rd zAA M w A2 x.V
 len h:=by obtain ⟨A2,c2,rfl,h0,h1,h2,h3,h4⟩:=h;rfl
 one h u hu:=by
  obtain ⟨A2,c2,rfl,h0,h1,h2,h3,h4⟩:=h;skip
  simp only [List.mem_cons,List.not_mem_nil,or_false] at hu
  rcases hu with rfl | rfl | rfl
  ·rfl
  ·rfl
  ·rfl
 to h k:=by obtain ⟨A2,c2,rfl,h0,h1,h2,h3,h4⟩:=h;exact ⟨A2,c2,rfl,h0,h1,h2,h3,h4.to k⟩
theorem k_api_Mat_zero (M:Nat->Prop) (w:World):zHm.R M w (⟨0,0,[]⟩:zAh) [.int .i64 0,.int .i64 0,.slice none 0 0]:=⟨none,0,rfl,by simp [InK],by simp [InK],Nat.le_refl _,Nat.zero_le _,.inl rfl⟩
theorem k_api_Mat_o {M:Nat->Prop} {w:World} {x:zAh} {u0 u1 u2:Value} (h:zHm.R M w x [u0,u1,u2]):∃ (A1:Option Addr) (c1:Nat),u0= .int .i64 x.R/\u1= .int .i64 x.C/\u2= .slice A1 x.V.length c1/\InK .i64 x.R/\InK .i64 x.C/\x.V.length<=c1/\x.V.length<=281474976710656/\Rd zAA M w A1 x.V:=by
 obtain ⟨a2,b2,hq,h0,h1,h2_0,h2_1,h2_2⟩:=h
 simp only [List.cons.injEq,and_true] at hq
 obtain ⟨rfl,rfl,rfl⟩:=hq
 exact ⟨_,_,rfl,rfl,rfl,h0,h1,h2_0,h2_1,h2_2⟩
structure zAI where
 d:(List Int)
 minus:Bool
instance:Inhabited zAI:=⟨⟨[],false⟩⟩
def zAE:Kd zAI where
 sz:=2
 R M w x cs:=∃ (A0:Option Addr) (c0:Nat),cs= [.slice A0 x.d.length c0,.bool x.minus]/\x.d.length<=c0/\x.d.length<=281474976710656/\Rd (Kd.int .u32) M w A0 x.d
 len h:=by obtain ⟨A0,c0,rfl,h0,h1,h2⟩:=h;rfl
 one h u hu:=by
  obtain ⟨A0,c0,rfl,h0,h1,h2⟩:=h;skip
  simp only [List.mem_cons,List.not_mem_nil,or_false] at hu
  rcases hu with rfl | rfl
  ·rfl
  ·rfl
 to h k:=by obtain ⟨A0,c0,rfl,h0,h1,h2⟩:=h;exact ⟨A0,c0,rfl,h0,h1,h2.to k⟩
theorem zBp (M:Nat->Prop) (w:World):zAE.R M w (⟨[],false⟩:zAI) [.slice none 0 0,.bool false]:=⟨none,0,rfl,Nat.le_refl _,Nat.zero_le _,.inl rfl⟩
theorem zAb {M:Nat->Prop} {w:World} {x:zAI} {u0 u1:Value} (h:zAE.R M w x [u0,u1]):∃ (A1:Option Addr) (c1:Nat),u0= .slice A1 x.d.length c1/\u1= .bool x.minus/\x.d.length<=c1/\x.d.length<=281474976710656/\Rd (Kd.int .u32) M w A1 x.d:=by
 obtain ⟨a0,b0,hq,h0_0,h0_1,h0_2⟩:=h
 simp only [List.cons.injEq,and_true] at hq
 obtain ⟨rfl,rfl⟩:=hq
 exact ⟨_,_,rfl,rfl,h0_0,h0_1,h0_2⟩
structure zAP where
 n:zAI
 d:zAI
instance:Inhabited zAP:=⟨⟨default,default⟩⟩
def zAK:Kd zAP where
 sz:=4
 R M w x cs:=∃ (u0_0:Value) (u0_1:Value) (u1_0:Value) (u1_1:Value),cs= [u0_0,u0_1,u1_0,u1_1]/\zAE.R M w x.n [u0_0,u0_1]/\zAE.R M w x.d [u1_0,u1_1]
 len h:=by obtain ⟨u0_0,u0_1,u1_0,u1_1,rfl,h0,h1⟩:=h;rfl
 one h u hu:=by
  obtain ⟨u0_0,u0_1,u1_0,u1_1,rfl,h0,h1⟩:=h;skip
  simp only [List.mem_cons,List.not_mem_nil,or_false] at hu
  rcases hu with rfl | rfl | rfl | rfl
  ·exact zAE.one h0 _ (by simp)
  ·exact zAE.one h0 _ (by simp)
  ·exact zAE.one h1 _ (by simp)
  ·exact zAE.one h1 _ (by simp)
 to h k:=by obtain ⟨u0_0,u0_1,u1_0,u1_1,rfl,h0,h1⟩:=h;exact ⟨u0_0,u0_1,u1_0,u1_1,rfl,zAE.to h0 k,zAE.to h1 k⟩
theorem zDM (M:Nat->Prop) (w:World):zAK.R M w (⟨(⟨[],false⟩:zAI),(⟨[],false⟩:zAI)⟩:zAP) [.slice none 0 0,.bool false,.slice none 0 0,.bool false]:=⟨_,_,_,_,rfl,zBp _ _,zBp _ _⟩
theorem zBB {M:Nat->Prop} {w:World} {x:zAP} {u0 u1 u2 u3:Value} (h:zAK.R M w x [u0,u1,u2,u3]):∃ (A1:Option Addr) (c1:Nat) (A2:Option Addr) (c2:Nat),u0= .slice A1 x.n.d.length c1/\u1= .bool x.n.minus/\u2= .slice A2 x.d.d.length c2/\u3= .bool x.d.minus/\zAE.R M w x.n [.slice A1 x.n.d.length c1,.bool x.n.minus]/\x.n.d.length<=c1/\x.n.d.length<=281474976710656/\Rd (Kd.int .u32) M w A1 x.n.d/\zAE.R M w x.d [.slice A2 x.d.d.length c2,.bool x.d.minus]/\x.d.d.length<=c2/\x.d.d.length<=281474976710656/\Rd (Kd.int .u32) M w A2 x.d.d:=by
 obtain ⟨s0_0,s0_1,s1_0,s1_1,hq,h0,h1⟩:=h
 simp only [List.cons.injEq,and_true] at hq
 obtain ⟨rfl,rfl,rfl,rfl⟩:=hq
 have k0:=h0
 obtain ⟨v0_0,v0_1,rfl,rfl,f0_0,f0_1,f0_2⟩:=zAb h0
 have k1:=h1
 obtain ⟨v1_0,v1_1,rfl,rfl,f1_0,f1_1,f1_2⟩:=zAb h1
 exact ⟨_,_,_,_,rfl,rfl,rfl,rfl,k0,f0_0,f0_1,f0_2,k1,f1_0,f1_1,f1_2⟩
structure zAM where
 v:Int
 m:(List Int)
 neg:Bool
instance:Inhabited zAM:=⟨⟨0,[],false⟩⟩
def zAH:Kd zAM where
 sz:=3
 R M w x cs:=∃ (A1:Option Addr) (c1:Nat),cs= [.int .i64 x.v,.slice A1 x.m.length c1,.bool x.neg]/\InK .i64 x.v/\x.m.length<=c1/\x.m.length<=281474976710656/\Rd (Kd.int .u32) M w A1 x.m/\(x.m= [] ↔ A1=none)
 len h:=by obtain ⟨A1,c1,rfl,h0,h1,h2,h3,h4⟩:=h;rfl
 one h u hu:=by
  obtain ⟨A1,c1,rfl,h0,h1,h2,h3,h4⟩:=h;skip
  simp only [List.mem_cons,List.not_mem_nil,or_false] at hu
  rcases hu with rfl | rfl | rfl
  ·rfl
  ·rfl
  ·rfl
 to h k:=by obtain ⟨A1,c1,rfl,h0,h1,h2,h3,h4⟩:=h;exact ⟨A1,c1,rfl,h0,h1,h2,h3.to k,h4⟩
theorem zAs (M:Nat->Prop) (w:World):zAH.R M w (⟨0,[],false⟩:zAM) [.int .i64 0,.slice none 0 0,.bool false]:=⟨none,0,rfl,by simp [InK],Nat.le_refl _,Nat.zero_le _,.inl rfl,⟨fun _=>rfl,fun _=>rfl⟩⟩
theorem zBV {M:Nat->Prop} {w:World} {x:zAM} {u0 u1 u2:Value} (h:zAH.R M w x [u0,u1,u2]):∃ (A1:Option Addr) (c1:Nat),u0= .int .i64 x.v/\u1= .slice A1 x.m.length c1/\u2= .bool x.neg/\InK .i64 x.v/\x.m.length<=c1/\x.m.length<=281474976710656/\Rd (Kd.int .u32) M w A1 x.m/\(x.m= [] ↔ A1=none):=by
 obtain ⟨a1,b1,hq,h0,h1_0,h1_1,h1_2,h1_3⟩:=h
 simp only [List.cons.injEq,and_true] at hq
 obtain ⟨rfl,rfl,rfl⟩:=hq
 exact ⟨_,_,rfl,rfl,rfl,h0,h1_0,h1_1,h1_2,h1_3⟩
structure zAD where
 N:zAM
 D:zAM
instance:Inhabited zAD:=⟨⟨default,default⟩⟩
def zAB:Kd zAD where
 sz:=6
 R M w x cs:=∃ (u0_0:Value) (u0_1:Value) (u0_2:Value) (u1_0:Value) (u1_1:Value) (u1_2:Value),cs= [u0_0,u0_1,u0_2,u1_0,u1_1,u1_2]/\zAH.R M w x.N [u0_0,u0_1,u0_2]/\zAH.R M w x.D [u1_0,u1_1,u1_2]
 len h:=by obtain ⟨u0_0,u0_1,u0_2,u1_0,u1_1,u1_2,rfl,h0,h1⟩:=h;rfl
 one h u hu:=by
  obtain ⟨u0_0,u0_1,u0_2,u1_0,u1_1,u1_2,rfl,h0,h1⟩:=h;skip
  simp only [List.mem_cons,List.not_mem_nil,or_false] at hu
  rcases hu with rfl | rfl | rfl | rfl | rfl | rfl
  ·exact zAH.one h0 _ (by simp)
  ·exact zAH.one h0 _ (by simp)
  ·exact zAH.one h0 _ (by simp)
  ·exact zAH.one h1 _ (by simp)
  ·exact zAH.one h1 _ (by simp)
  ·exact zAH.one h1 _ (by simp)
 to h k:=by obtain ⟨u0_0,u0_1,u0_2,u1_0,u1_1,u1_2,rfl,h0,h1⟩:=h;exact ⟨u0_0,u0_1,u0_2,u1_0,u1_1,u1_2,rfl,zAH.to h0 k,zAH.to h1 k⟩
theorem zBl (M:Nat->Prop) (w:World):zAB.R M w (⟨(⟨0,[],false⟩:zAM),(⟨0,[],false⟩:zAM)⟩:zAD) [.int .i64 0,.slice none 0 0,.bool false,.int .i64 0,.slice none 0 0,.bool false]:=⟨_,_,_,_,_,_,rfl,zAs _ _,zAs _ _⟩
theorem zBW {M:Nat->Prop} {w:World} {x:zAD} {u0 u1 u2 u3 u4 u5:Value} (h:zAB.R M w x [u0,u1,u2,u3,u4,u5]):∃ (A1:Option Addr) (c1:Nat) (A2:Option Addr) (c2:Nat),u0= .int .i64 x.N.v/\u1= .slice A1 x.N.m.length c1/\u2= .bool x.N.neg/\u3= .int .i64 x.D.v/\u4= .slice A2 x.D.m.length c2/\u5= .bool x.D.neg/\zAH.R M w x.N [.int .i64 x.N.v,.slice A1 x.N.m.length c1,.bool x.N.neg]/\InK .i64 x.N.v/\x.N.m.length<=c1/\x.N.m.length<=281474976710656/\Rd (Kd.int .u32) M w A1 x.N.m/\(x.N.m= [] ↔ A1=none)/\zAH.R M w x.D [.int .i64 x.D.v,.slice A2 x.D.m.length c2,.bool x.D.neg]/\InK .i64 x.D.v/\x.D.m.length<=c2/\x.D.m.length<=281474976710656/\Rd (Kd.int .u32) M w A2 x.D.m/\(x.D.m= [] ↔ A2=none):=by
 obtain ⟨s0_0,s0_1,s0_2,s1_0,s1_1,s1_2,hq,h0,h1⟩:=h
 simp only [List.cons.injEq,and_true] at hq
 obtain ⟨rfl,rfl,rfl,rfl,rfl,rfl⟩:=hq
 have k0:=h0
 obtain ⟨v0_0,v0_1,rfl,rfl,rfl,f0_0,f0_1,f0_2,f0_3,f0_4⟩:=zBV h0
 have k1:=h1
 obtain ⟨v1_0,v1_1,rfl,rfl,rfl,f1_0,f1_1,f1_2,f1_3,f1_4⟩:=zBV h1
 exact ⟨_,_,_,_,rfl,rfl,rfl,rfl,rfl,rfl,k0,f0_0,f0_1,f0_2,f0_3,f0_4,k1,f1_0,f1_1,f1_2,f1_3,f1_4⟩
structure zAc where
 n:Int
 m:(List (List zAD))
 v:(List zAD)
 q:zAD
instance:Inhabited zAc:=⟨⟨0,[],[],default⟩⟩
def zAl:Kd zAc where
 sz:=9
 R M w x cs:=∃ (A1:Option Addr) (c1:Nat) (A2:Option Addr) (c2:Nat) (u3_0:Value) (u3_1:Value) (u3_2:Value) (u3_3:Value) (u3_4:Value) (u3_5:Value),cs= [.int .i64 x.n,.slice A1 x.m.length c1,.slice A2 x.v.length c2,u3_0,u3_1,u3_2,u3_3,u3_4,u3_5]/\InK .i64 x.n/\x.m.length<=c1/\x.m.length<=281474976710656/\Rd (Kd.slice zAB) M w A1 x.m/\x.v.length<=c2/\x.v.length<=281474976710656/\Rd zAB M w A2 x.v/\zAB.R M w x.q [u3_0,u3_1,u3_2,u3_3,u3_4,u3_5]
 len h:=by obtain ⟨A1,c1,A2,c2,u3_0,u3_1,u3_2,u3_3,u3_4,u3_5,rfl,h0,h1,h2,h3,h4,h5,h6,h7⟩:=h;rfl
 one h u hu:=by
  obtain ⟨A1,c1,A2,c2,u3_0,u3_1,u3_2,u3_3,u3_4,u3_5,rfl,h0,h1,h2,h3,h4,h5,h6,h7⟩:=h;skip
  simp only [List.mem_cons,List.not_mem_nil,or_false] at hu
  rcases hu with rfl | rfl | rfl | rfl | rfl | rfl | rfl | rfl | rfl
  ·rfl
  ·rfl
  ·rfl
  ·exact zAB.one h7 _ (by simp)
  ·exact zAB.one h7 _ (by simp)
  ·exact zAB.one h7 _ (by simp)
  ·exact zAB.one h7 _ (by simp)
  ·exact zAB.one h7 _ (by simp)
  ·exact zAB.one h7 _ (by simp)
 to h k:=by obtain ⟨A1,c1,A2,c2,u3_0,u3_1,u3_2,u3_3,u3_4,u3_5,rfl,h0,h1,h2,h3,h4,h5,h6,h7⟩:=h;exact ⟨A1,c1,A2,c2,u3_0,u3_1,u3_2,u3_3,u3_4,u3_5,rfl,h0,h1,h2,h3.to k,h4,h5,h6.to k,zAB.to h7 k⟩
theorem zGb (M:Nat->Prop) (w:World):zAl.R M w (⟨0,[],[],(⟨(⟨0,[],false⟩:zAM),(⟨0,[],false⟩:zAM)⟩:zAD)⟩:zAc) [.int .i64 0,.slice none 0 0,.slice none 0 0,.int .i64 0,.slice none 0 0,.bool false,.int .i64 0,.slice none 0 0,.bool false]:=⟨none,0,none,0,_,_,_,_,_,_,rfl,by simp [InK],Nat.le_refl _,Nat.zero_le _,.inl rfl,Nat.le_refl _,Nat.zero_le _,.inl rfl,zBl _ _⟩
theorem zEt {M:Nat->Prop} {w:World} {x:zAc} {u0 u1 u2 u3 u4 u5 u6 u7 u8:Value} (h:zAl.R M w x [u0,u1,u2,u3,u4,u5,u6,u7,u8]):∃ (A1:Option Addr) (c1:Nat) (A2:Option Addr) (c2:Nat) (A3:Option Addr) (c3:Nat) (A4:Option Addr) (c4:Nat),u0= .int .i64 x.n/\u1= .slice A1 x.m.length c1/\u2= .slice A2 x.v.length c2/\u3= .int .i64 x.q.N.v/\u4= .slice A3 x.q.N.m.length c3/\u5= .bool x.q.N.neg/\u6= .int .i64 x.q.D.v/\u7= .slice A4 x.q.D.m.length c4/\u8= .bool x.q.D.neg/\InK .i64 x.n/\x.m.length<=c1/\x.m.length<=281474976710656/\Rd (Kd.slice zAB) M w A1 x.m/\x.v.length<=c2/\x.v.length<=281474976710656/\Rd zAB M w A2 x.v/\zAB.R M w x.q [.int .i64 x.q.N.v,.slice A3 x.q.N.m.length c3,.bool x.q.N.neg,.int .i64 x.q.D.v,.slice A4 x.q.D.m.length c4,.bool x.q.D.neg]/\zAH.R M w x.q.N [.int .i64 x.q.N.v,.slice A3 x.q.N.m.length c3,.bool x.q.N.neg]/\InK .i64 x.q.N.v/\x.q.N.m.length<=c3/\x.q.N.m.length<=281474976710656/\Rd (Kd.int .u32) M w A3 x.q.N.m/\(x.q.N.m= [] ↔ A3=none)/\zAH.R M w x.q.D [.int .i64 x.q.D.v,.slice A4 x.q.D.m.length c4,.bool x.q.D.neg]/\InK .i64 x.q.D.v/\x.q.D.m.length<=c4/\x.q.D.m.length<=281474976710656/\Rd (Kd.int .u32) M w A4 x.q.D.m/\(x.q.D.m= [] ↔ A4=none):=by
 obtain ⟨a1,b1,a2,b2,s3_0,s3_1,s3_2,s3_3,s3_4,s3_5,hq,h0,h1_0,h1_1,h1_2,h2_0,h2_1,h2_2,h3⟩:=h
 simp only [List.cons.injEq,and_true] at hq
 obtain ⟨rfl,rfl,rfl,rfl,rfl,rfl,rfl,rfl,rfl⟩:=hq
 have k3:=h3
 obtain ⟨v3_0,v3_1,v3_2,v3_3,rfl,rfl,rfl,rfl,rfl,rfl,f3_0,f3_1,f3_2,f3_3,f3_4,f3_5,f3_6,f3_7,f3_8,f3_9,f3_10,f3_11⟩:=zBW h3
 exact ⟨_,_,_,_,_,_,_,_,rfl,rfl,rfl,rfl,rfl,rfl,rfl,rfl,rfl,h0,h1_0,h1_1,h1_2,h2_0,h2_1,h2_2,k3,f3_0,f3_1,f3_2,f3_3,f3_4,f3_5,f3_6,f3_7,f3_8,f3_9,f3_10,f3_11⟩
structure zAQ where
 sums:zAc
 rows:(List (List zAD))
 b:(List zAD)
instance:Inhabited zAQ:=⟨⟨default,[],[]⟩⟩
def zAk:Kd zAQ where
 sz:=11
 R M w x cs:=∃ (u0_0:Value) (u0_1:Value) (u0_2:Value) (u0_3:Value) (u0_4:Value) (u0_5:Value) (u0_6:Value) (u0_7:Value) (u0_8:Value) (A1:Option Addr) (c1:Nat) (A2:Option Addr) (c2:Nat),cs= [u0_0,u0_1,u0_2,u0_3,u0_4,u0_5,u0_6,u0_7,u0_8,.slice A1 x.rows.length c1,.slice A2 x.b.length c2]/\zAl.R M w x.sums [u0_0,u0_1,u0_2,u0_3,u0_4,u0_5,u0_6,u0_7,u0_8]/\x.rows.length<=c1/\x.rows.length<=281474976710656/\Rd (Kd.slice zAB) M w A1 x.rows/\x.b.length<=c2/\x.b.length<=281474976710656/\Rd zAB M w A2 x.b
 len h:=by obtain ⟨u0_0,u0_1,u0_2,u0_3,u0_4,u0_5,u0_6,u0_7,u0_8,A1,c1,A2,c2,rfl,h0,h1,h2,h3,h4,h5,h6⟩:=h;rfl
 one h u hu:=by
  obtain ⟨u0_0,u0_1,u0_2,u0_3,u0_4,u0_5,u0_6,u0_7,u0_8,A1,c1,A2,c2,rfl,h0,h1,h2,h3,h4,h5,h6⟩:=h;skip
  simp only [List.mem_cons,List.not_mem_nil,or_false] at hu
  rcases hu with rfl | rfl | rfl | rfl | rfl | rfl | rfl | rfl | rfl | rfl | rfl
  ·exact zAl.one h0 _ (by simp)
  ·exact zAl.one h0 _ (by simp)
  ·exact zAl.one h0 _ (by simp)
  ·exact zAl.one h0 _ (by simp)
  ·exact zAl.one h0 _ (by simp)
  ·exact zAl.one h0 _ (by simp)
  ·exact zAl.one h0 _ (by simp)
  ·exact zAl.one h0 _ (by simp)
  ·exact zAl.one h0 _ (by simp)
  ·rfl
  ·rfl
 to h k:=by obtain ⟨u0_0,u0_1,u0_2,u0_3,u0_4,u0_5,u0_6,u0_7,u0_8,A1,c1,A2,c2,rfl,h0,h1,h2,h3,h4,h5,h6⟩:=h;exact ⟨u0_0,u0_1,u0_2,u0_3,u0_4,u0_5,u0_6,u0_7,u0_8,A1,c1,A2,c2,rfl,zAl.to h0 k,h1,h2,h3.to k,h4,h5,h6.to k⟩
theorem zII (M:Nat->Prop) (w:World):zAk.R M w (⟨(⟨0,[],[],(⟨(⟨0,[],false⟩:zAM),(⟨0,[],false⟩:zAM)⟩:zAD)⟩:zAc),[],[]⟩:zAQ) [.int .i64 0,.slice none 0 0,.slice none 0 0,.int .i64 0,.slice none 0 0,.bool false,.int .i64 0,.slice none 0 0,.bool false,.slice none 0 0,.slice none 0 0]:=⟨_,_,_,_,_,_,_,_,_,none,0,none,0,rfl,zGb _ _,Nat.le_refl _,Nat.zero_le _,.inl rfl,Nat.le_refl _,Nat.zero_le _,.inl rfl⟩
theorem zC8 {M:Nat->Prop} {w:World} {x:zAQ} {u0 u1 u2 u3 u4 u5 u6 u7 u8 u9 u10:Value} (h:zAk.R M w x [u0,u1,u2,u3,u4,u5,u6,u7,u8,u9,u10]):∃ (A1:Option Addr) (c1:Nat) (A2:Option Addr) (c2:Nat) (A3:Option Addr) (c3:Nat) (A4:Option Addr) (c4:Nat) (A5:Option Addr) (c5:Nat) (A6:Option Addr) (c6:Nat),u0= .int .i64 x.sums.n/\u1= .slice A1 x.sums.m.length c1/\u2= .slice A2 x.sums.v.length c2/\u3= .int .i64 x.sums.q.N.v/\u4= .slice A3 x.sums.q.N.m.length c3/\u5= .bool x.sums.q.N.neg/\u6= .int .i64 x.sums.q.D.v/\u7= .slice A4 x.sums.q.D.m.length c4/\u8= .bool x.sums.q.D.neg/\u9= .slice A5 x.rows.length c5/\u10= .slice A6 x.b.length c6/\zAl.R M w x.sums [.int .i64 x.sums.n,.slice A1 x.sums.m.length c1,.slice A2 x.sums.v.length c2,.int .i64 x.sums.q.N.v,.slice A3 x.sums.q.N.m.length c3,.bool x.sums.q.N.neg,.int .i64 x.sums.q.D.v,.slice A4 x.sums.q.D.m.length c4,.bool x.sums.q.D.neg]/\InK .i64 x.sums.n/\x.sums.m.length<=c1/\x.sums.m.length<=281474976710656/\Rd (Kd.slice zAB) M w A1 x.sums.m/\x.sums.v.length<=c2/\x.sums.v.length<=281474976710656/\Rd zAB M w A2 x.sums.v/\zAB.R M w x.sums.q [.int .i64 x.sums.q.N.v,.slice A3 x.sums.q.N.m.length c3,.bool x.sums.q.N.neg,.int .i64 x.sums.q.D.v,.slice A4 x.sums.q.D.m.length c4,.bool x.sums.q.D.neg]/\zAH.R M w x.sums.q.N [.int .i64 x.sums.q.N.v,.slice A3 x.sums.q.N.m.length c3,.bool x.sums.q.N.neg]/\InK .i64 x.sums.q.N.v/\x.sums.q.N.m.length<=c3/\x.sums.q.N.m.length<=281474976710656/\Rd (Kd.int .u32) M w A3 x.sums.q.N.m/\(x.sums.q.N.m= [] ↔ A3=none)/\zAH.R M w x.sums.q.D [.int .i64 x.sums.q.D.v,.slice A4 x.sums.q.D.m.length c4,.bool x.sums.q.D.neg]/\InK .i64 x.sums.q.D.v/\x.sums.q.D.m.length<=c4/\x.sums.q.D.m.length<=281474976710656/\Rd (Kd.int .u32) M w A4 x.sums.q.D.m/\(x.sums.q.D.m= [] ↔ A4=none)/\x.rows.length<=c5/\x.rows.length<=281474976710656/\Rd (Kd.slice zAB) M w A5 x.rows/\x.b.length<=c6/\x.b.length<=281474976710656/\Rd zAB M w A6 x.b:=by
 obtain ⟨s0_0,s0_1,s0_2,s0_3,s0_4,s0_5,s0_6,s0_7,s0_8,a1,b1,a2,b2,hq,h0,h1_0,h1_1,h1_2,h2_0,h2_1,h2_2⟩:=h
 simp only [List.cons.injEq,and_true] at hq
 obtain ⟨rfl,rfl,rfl,rfl,rfl,rfl,rfl,rfl,rfl,rfl,rfl⟩:=hq
 have k0:=h0
 obtain ⟨v0_0,v0_1,v0_2,v0_3,v0_4,v0_5,v0_6,v0_7,rfl,rfl,rfl,rfl,rfl,rfl,rfl,rfl,rfl,f0_0,f0_1,f0_2,f0_3,f0_4,f0_5,f0_6,f0_7,f0_8,f0_9,f0_10,f0_11,f0_12,f0_13,f0_14,f0_15,f0_16,f0_17,f0_18,f0_19⟩:=zEt h0
 exact ⟨_,_,_,_,_,_,_,_,_,_,_,_,rfl,rfl,rfl,rfl,rfl,rfl,rfl,rfl,rfl,rfl,rfl,k0,f0_0,f0_1,f0_2,f0_3,f0_4,f0_5,f0_6,f0_7,f0_8,f0_9,f0_10,f0_11,f0_12,f0_13,f0_14,f0_15,f0_16,f0_17,f0_18,f0_19,h1_0,h1_1,h1_2,h2_0,h2_1,h2_2⟩
structure zAm where
 Lo:(List zAC)
 Hi:(List zAC)
instance:Inhabited zAm:=⟨⟨[],[]⟩⟩
def zFs:Kd zAm where
 sz:=2
 R M w x cs:=∃ (A0:Option Addr) (c0:Nat) (A1:Option Addr) (c1:Nat),cs= [.slice A0 x.Lo.length c0,.slice A1 x.Hi.length c1]/\x.Lo.length<=c0/\x.Lo.length<=281474976710656/\Rd zAA M w A0 x.Lo/\x.Hi.length<=c1/\x.Hi.length<=281474976710656/\Rd zAA M w A1 x.Hi
 len h:=by obtain ⟨A0,c0,A1,c1,rfl,h0,h1,h2,h3,h4,h5⟩:=h;rfl
 one h u hu:=by
  obtain ⟨A0,c0,A1,c1,rfl,h0,h1,h2,h3,h4,h5⟩:=h;skip
  simp only [List.mem_cons,List.not_mem_nil,or_false] at hu
  rcases hu with rfl | rfl
  ·rfl
  ·rfl
 to h k:=by obtain ⟨A0,c0,A1,c1,rfl,h0,h1,h2,h3,h4,h5⟩:=h;exact ⟨A0,c0,A1,c1,rfl,h0,h1,h2.to k,h3,h4,h5.to k⟩
theorem zIb (M:Nat->Prop) (w:World):zFs.R M w (⟨[],[]⟩:zAm) [.slice none 0 0,.slice none 0 0]:=⟨none,0,none,0,rfl,Nat.le_refl _,Nat.zero_le _,.inl rfl,Nat.le_refl _,Nat.zero_le _,.inl rfl⟩
theorem k_api_Bounds_o {M:Nat->Prop} {w:World} {x:zAm} {u0 u1:Value} (h:zFs.R M w x [u0,u1]):∃ (A1:Option Addr) (c1:Nat) (A2:Option Addr) (c2:Nat),u0= .slice A1 x.Lo.length c1/\u1= .slice A2 x.Hi.length c2/\x.Lo.length<=c1/\x.Lo.length<=281474976710656/\Rd zAA M w A1 x.Lo/\x.Hi.length<=c2/\x.Hi.length<=281474976710656/\Rd zAA M w A2 x.Hi:=by
 obtain ⟨a0,b0,a1,b1,hq,h0_0,h0_1,h0_2,h1_0,h1_1,h1_2⟩:=h
 simp only [List.cons.injEq,and_true] at hq
 obtain ⟨rfl,rfl⟩:=hq
 exact ⟨_,_,_,_,rfl,rfl,h0_0,h0_1,h0_2,h1_0,h1_1,h1_2⟩
end Go.Proofs.Ytlmpoindlejefaa.E
