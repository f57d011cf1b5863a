/- Kinds of structs. -/
import Derived.Test.YtgbmmbfminafnaaKE11
set_option linter.unusedVariables false
set_option linter.unusedSimpArgs false
set_option maxRecDepth 100000
namespace Go.Proofs.Ytgbmmbfminafnaa.E
open Go Go.RowKit
structure api_Flow where
 A:Int
 B:Int
 Put:Int
 Take:Int
 Start:Int
instance:Inhabited api_Flow:=⟨⟨0,0,0,0,0⟩⟩
instance:DecidableEq api_Flow:=fun a b=>decidable_of_iff (a.A=b.A/\a.B=b.B/\a.Put=b.Put/\a.Take=b.Take/\a.Start=b.Start) (by cases a;cases b;simp)
def k_api_Flow:Kd api_Flow where
 sz:=5
 R M w x cs:=cs= [.int .i64 x.A,.int .i64 x.B,.int .i64 x.Put,.int .i64 x.Take,.int .i64 x.Start]/\InK .i64 x.A/\InK .i64 x.B/\InK .i64 x.Put/\InK .i64 x.Take/\InK .i64 x.Start
 len h:=by obtain ⟨rfl,h0,h1,h2,h3,h4⟩:=h;rfl
 one h u hu:=by
  obtain ⟨rfl,h0,h1,h2,h3,h4⟩:=h;skip
  simp only [List.mem_cons,List.not_mem_nil,or_false] at hu
  rcases hu with rfl | rfl | rfl | rfl | rfl
  ·rfl
  ·rfl
  ·rfl
  ·rfl
  ·rfl
 to h k:=by obtain ⟨rfl,h0,h1,h2,h3,h4⟩:=h;exact ⟨rfl,h0,h1,h2,h3,h4⟩
theorem k_api_Flow_zero (M:Nat->Prop) (w:World):k_api_Flow.R M w (⟨0,0,0,0,0⟩:api_Flow) [.int .i64 0,.int .i64 0,.int .i64 0,.int .i64 0,.int .i64 0]:=⟨rfl,by simp [InK],by simp [InK],by simp [InK],by simp [InK],by simp [InK]⟩
theorem k_api_Flow_o {M:Nat->Prop} {w:World} {x:api_Flow} {u0 u1 u2 u3 u4:Value} (h:k_api_Flow.R M w x [u0,u1,u2,u3,u4]):u0= .int .i64 x.A/\u1= .int .i64 x.B/\u2= .int .i64 x.Put/\u3= .int .i64 x.Take/\u4= .int .i64 x.Start/\InK .i64 x.A/\InK .i64 x.B/\InK .i64 x.Put/\InK .i64 x.Take/\InK .i64 x.Start:=by
 obtain ⟨hq,h0,h1,h2,h3,h4⟩:=h
 simp only [List.cons.injEq,and_true] at hq
 obtain ⟨rfl,rfl,rfl,rfl,rfl⟩:=hq
 exact ⟨rfl,rfl,rfl,rfl,rfl,h0,h1,h2,h3,h4⟩
structure api_Rat where
 N:Int
 D:Int
instance:Inhabited api_Rat:=⟨⟨0,0⟩⟩
instance:DecidableEq api_Rat:=fun a b=>decidable_of_iff (a.N=b.N/\a.D=b.D) (by cases a;cases b;simp)
def k_api_Rat:Kd api_Rat where
 sz:=2
 R M w x cs:=cs= [.int .i64 x.N,.int .i64 x.D]/\InK .i64 x.N/\InK .i64 x.D
 len h:=by obtain ⟨rfl,h0,h1⟩:=h;rfl
 one h u hu:=by
  obtain ⟨rfl,h0,h1⟩:=h;skip
  simp only [List.mem_cons,List.not_mem_nil,or_false] at hu
  rcases hu with rfl | rfl
  ·rfl
  ·rfl
 to h k:=by obtain ⟨rfl,h0,h1⟩:=h;exact ⟨rfl,h0,h1⟩
theorem k_api_Rat_zero (M:Nat->Prop) (w:World):k_api_Rat.R M w (⟨0,0⟩:api_Rat) [.int .i64 0,.int .i64 0]:=⟨rfl,by simp [InK],by simp [InK]⟩
theorem k_api_Rat_o {M:Nat->Prop} {w:World} {x:api_Rat} {u0 u1:Value} (h:k_api_Rat.R M w x [u0,u1]):u0= .int .i64 x.N/\u1= .int .i64 x.D/\InK .i64 x.N/\InK .i64 x.D:=by
 obtain ⟨hq,h0,h1⟩:=h
 simp only [List.cons.injEq,and_true] at hq
 obtain ⟨rfl,rfl⟩:=hq
 exact ⟨rfl,rfl,h0,h1⟩
structure api_Mat where
 R:Int
 C:Int
 V:(List api_Rat)
instance:Inhabited api_Mat:=⟨⟨0,0,[]⟩⟩
def k_api_Mat:Kd api_Mat where
 sz:=3
 R M w x cs:=∃ (A2:Option Addr) (c2:Nat),cs= [.int .i64 x.R,.int .i64 x.C,.slice A2 x.V.length c2]/\InK .i64 x.R/\InK .i64 x.C/\x.V.length<=c2/\x.V.length<=281474976710656/\Rd k_api_Rat M w A2 x.V
 len h:=by obtain ⟨A2,c2,rfl,h0,h1,h2,h3,h4⟩:=h;rfl
 one h u hu:=by
  obtain ⟨A2,c2,rfl,h0,h1,h2,h3,h4⟩:=h;skip
  simp only [List.mem_cons,List.not_mem_nil,or_false] at hu
  rcases hu with rfl | rfl | rfl
  ·rfl
  ·rfl
  ·rfl
 to h k:=by obtain ⟨A2,c2,rfl,h0,h1,h2,h3,h4⟩:=h;exact ⟨A2,c2,rfl,h0,h1,h2,h3,h4.to k⟩
theorem k_api_Mat_zero (M:Nat->Prop) (w:World):k_api_Mat.R M w (⟨0,0,[]⟩:api_Mat) [.int .i64 0,.int .i64 0,.slice none 0 0]:=⟨none,0,rfl,by simp [InK],by simp [InK],Nat.le_refl _,Nat.zero_le _,.inl rfl⟩
theorem k_api_Mat_o {M:Nat->Prop} {w:World} {x:api_Mat} {u0 u1 u2:Value} (h:k_api_Mat.R M w x [u0,u1,u2]):∃ (A1:Option Addr) (c1:Nat),u0= .int .i64 x.R/\u1= .int .i64 x.C/\u2= .slice A1 x.V.length c1/\InK .i64 x.R/\InK .i64 x.C/\x.V.length<=c1/\x.V.length<=281474976710656/\Rd k_api_Rat M w A1 x.V:=by
 obtain ⟨a2,b2,hq,h0,h1,h2_0,h2_1,h2_2⟩:=h
 simp only [List.cons.injEq,and_true] at hq
 obtain ⟨rfl,rfl,rfl⟩:=hq
 exact ⟨_,_,rfl,rfl,rfl,h0,h1,h2_0,h2_1,h2_2⟩
structure num_Z where
 v:Int
 m:(List Int)
 neg:Bool
instance:Inhabited num_Z:=⟨⟨0,[],false⟩⟩
def k_num_Z:Kd num_Z where
 sz:=3
 R M w x cs:=∃ (A1:Option Addr) (c1:Nat),cs= [.int .i64 x.v,.slice A1 x.m.length c1,.bool x.neg]/\InK .i64 x.v/\x.m.length<=c1/\x.m.length<=281474976710656/\Rd (Kd.int .u32) M w A1 x.m/\(x.m= [] ↔ A1=none)
 len h:=by obtain ⟨A1,c1,rfl,h0,h1,h2,h3,h4⟩:=h;rfl
 one h u hu:=by
  obtain ⟨A1,c1,rfl,h0,h1,h2,h3,h4⟩:=h;skip
  simp only [List.mem_cons,List.not_mem_nil,or_false] at hu
  rcases hu with rfl | rfl | rfl
  ·rfl
  ·rfl
  ·rfl
 to h k:=by obtain ⟨A1,c1,rfl,h0,h1,h2,h3,h4⟩:=h;exact ⟨A1,c1,rfl,h0,h1,h2,h3.to k,h4⟩
theorem k_num_Z_zero (M:Nat->Prop) (w:World):k_num_Z.R M w (⟨0,[],false⟩:num_Z) [.int .i64 0,.slice none 0 0,.bool false]:=⟨none,0,rfl,by simp [InK],Nat.le_refl _,Nat.zero_le _,.inl rfl,⟨fun _=>rfl,fun _=>rfl⟩⟩
theorem k_num_Z_o {M:Nat->Prop} {w:World} {x:num_Z} {u0 u1 u2:Value} (h:k_num_Z.R M w x [u0,u1,u2]):∃ (A1:Option Addr) (c1:Nat),u0= .int .i64 x.v/\u1= .slice A1 x.m.length c1/\u2= .bool x.neg/\InK .i64 x.v/\x.m.length<=c1/\x.m.length<=281474976710656/\Rd (Kd.int .u32) M w A1 x.m/\(x.m= [] ↔ A1=none):=by
 obtain ⟨a1,b1,hq,h0,h1_0,h1_1,h1_2,h1_3⟩:=h
 simp only [List.cons.injEq,and_true] at hq
 obtain ⟨rfl,rfl,rfl⟩:=hq
 exact ⟨_,_,rfl,rfl,rfl,h0,h1_0,h1_1,h1_2,h1_3⟩
structure num_Q where
 N:num_Z
 D:num_Z
instance:Inhabited num_Q:=⟨⟨default,default⟩⟩
def k_num_Q:Kd num_Q where
 sz:=6
 R M w x cs:=∃ (u0_0:Value) (u0_1:Value) (u0_2:Value) (u1_0:Value) (u1_1:Value) (u1_2:Value),cs= [u0_0,u0_1,u0_2,u1_0,u1_1,u1_2]/\k_num_Z.R M w x.N [u0_0,u0_1,u0_2]/\k_num_Z.R M w x.D [u1_0,u1_1,u1_2]
 len h:=by obtain ⟨u0_0,u0_1,u0_2,u1_0,u1_1,u1_2,rfl,h0,h1⟩:=h;rfl
 one h u hu:=by
  obtain ⟨u0_0,u0_1,u0_2,u1_0,u1_1,u1_2,rfl,h0,h1⟩:=h;skip
  simp only [List.mem_cons,List.not_mem_nil,or_false] at hu
  rcases hu with rfl | rfl | rfl | rfl | rfl | rfl
  ·exact k_num_Z.one h0 _ (by simp)
  ·exact k_num_Z.one h0 _ (by simp)
  ·exact k_num_Z.one h0 _ (by simp)
  ·exact k_num_Z.one h1 _ (by simp)
  ·exact k_num_Z.one h1 _ (by simp)
  ·exact k_num_Z.one h1 _ (by simp)
 to h k:=by obtain ⟨u0_0,u0_1,u0_2,u1_0,u1_1,u1_2,rfl,h0,h1⟩:=h;exact ⟨u0_0,u0_1,u0_2,u1_0,u1_1,u1_2,rfl,k_num_Z.to h0 k,k_num_Z.to h1 k⟩
theorem k_num_Q_zero (M:Nat->Prop) (w:World):k_num_Q.R M w (⟨(⟨0,[],false⟩:num_Z),(⟨0,[],false⟩:num_Z)⟩:num_Q) [.int .i64 0,.slice none 0 0,.bool false,.int .i64 0,.slice none 0 0,.bool false]:=⟨_,_,_,_,_,_,rfl,k_num_Z_zero _ _,k_num_Z_zero _ _⟩
theorem k_num_Q_o {M:Nat->Prop} {w:World} {x:num_Q} {u0 u1 u2 u3 u4 u5:Value} (h:k_num_Q.R M w x [u0,u1,u2,u3,u4,u5]):∃ (A1:Option Addr) (c1:Nat) (A2:Option Addr) (c2:Nat),u0= .int .i64 x.N.v/\u1= .slice A1 x.N.m.length c1/\u2= .bool x.N.neg/\u3= .int .i64 x.D.v/\u4= .slice A2 x.D.m.length c2/\u5= .bool x.D.neg/\k_num_Z.R M w x.N [.int .i64 x.N.v,.slice A1 x.N.m.length c1,.bool x.N.neg]/\InK .i64 x.N.v/\x.N.m.length<=c1/\x.N.m.length<=281474976710656/\Rd (Kd.int .u32) M w A1 x.N.m/\(x.N.m= [] ↔ A1=none)/\k_num_Z.R M w x.D [.int .i64 x.D.v,.slice A2 x.D.m.length c2,.bool x.D.neg]/\InK .i64 x.D.v/\x.D.m.length<=c2/\x.D.m.length<=281474976710656/\Rd (Kd.int .u32) M w A2 x.D.m/\(x.D.m= [] ↔ A2=none):=by
 obtain ⟨s0_0,s0_1,s0_2,s1_0,s1_1,s1_2,hq,h0,h1⟩:=h
 simp only [List.cons.injEq,and_true] at hq
 obtain ⟨rfl,rfl,rfl,rfl,rfl,rfl⟩:=hq
 have k0:=h0
 obtain ⟨v0_0,v0_1,rfl,rfl,rfl,f0_0,f0_1,f0_2,f0_3,f0_4⟩:=k_num_Z_o h0
 have k1:=h1
 obtain ⟨v1_0,v1_1,rfl,rfl,rfl,f1_0,f1_1,f1_2,f1_3,f1_4⟩:=k_num_Z_o h1
 exact ⟨_,_,_,_,rfl,rfl,rfl,rfl,rfl,rfl,k0,f0_0,f0_1,f0_2,f0_3,f0_4,k1,f1_0,f1_1,f1_2,f1_3,f1_4⟩
structure qm_M where
 C:Int
 V:(List (List num_Q))
instance:Inhabited qm_M:=⟨⟨0,[]⟩⟩
def k_qm_M:Kd qm_M where
 sz:=2
 R M w x cs:=∃ (A1:Option Addr) (c1:Nat),cs= [.int .i64 x.C,.slice A1 x.V.length c1]/\InK .i64 x.C/\x.V.length<=c1/\x.V.length<=281474976710656/\Rd (Kd.slice k_num_Q) M w A1 x.V
 len h:=by obtain ⟨A1,c1,rfl,h0,h1,h2,h3⟩:=h;rfl
 one h u hu:=by
  obtain ⟨A1,c1,rfl,h0,h1,h2,h3⟩:=h;skip
  simp only [List.mem_cons,List.not_mem_nil,or_false] at hu
  rcases hu with rfl | rfl
  ·rfl
  ·rfl
 to h k:=by obtain ⟨A1,c1,rfl,h0,h1,h2,h3⟩:=h;exact ⟨A1,c1,rfl,h0,h1,h2,h3.to k⟩
theorem k_qm_M_zero (M:Nat->Prop) (w:World):k_qm_M.R M w (⟨0,[]⟩:qm_M) [.int .i64 0,.slice none 0 0]:=⟨none,0,rfl,by simp [InK],Nat.le_refl _,Nat.zero_le _,.inl rfl⟩
theorem k_qm_M_o {M:Nat->Prop} {w:World} {x:qm_M} {u0 u1:Value} (h:k_qm_M.R M w x [u0,u1]):∃ (A1:Option Addr) (c1:Nat),u0= .int .i64 x.C/\u1= .slice A1 x.V.length c1/\InK .i64 x.C/\x.V.length<=c1/\x.V.length<=281474976710656/\Rd (Kd.slice k_num_Q) M w A1 x.V:=by
 obtain ⟨a1,b1,hq,h0,h1_0,h1_1,h1_2⟩:=h
 simp only [List.cons.injEq,and_true] at hq
 obtain ⟨rfl,rfl⟩:=hq
 exact ⟨_,_,rfl,rfl,h0,h1_0,h1_1,h1_2⟩
structure ref01_whole where
 d:(List Int)
 minus:Bool
instance:Inhabited ref01_whole:=⟨⟨[],false⟩⟩
def k_ref01_whole:Kd ref01_whole where
 sz:=2
 R M w x cs:=∃ (A0:Option Addr) (c0:Nat),cs= [.slice A0 x.d.length c0,.bool x.minus]/\x.d.length<=c0/\x.d.length<=281474976710656/\Rd (Kd.int .u32) M w A0 x.d
 len h:=by obtain ⟨A0,c0,rfl,h0,h1,h2⟩:=h;rfl
 one h u hu:=by
  obtain ⟨A0,c0,rfl,h0,h1,h2⟩:=h;skip
  simp only [List.mem_cons,List.not_mem_nil,or_false] at hu
  rcases hu with rfl | rfl
  ·rfl
  ·rfl
 to h k:=by obtain ⟨A0,c0,rfl,h0,h1,h2⟩:=h;exact ⟨A0,c0,rfl,h0,h1,h2.to k⟩
theorem k_ref01_whole_zero (M:Nat->Prop) (w:World):k_ref01_whole.R M w (⟨[],false⟩:ref01_whole) [.slice none 0 0,.bool false]:=⟨none,0,rfl,Nat.le_refl _,Nat.zero_le _,.inl rfl⟩
theorem k_ref01_whole_o {M:Nat->Prop} {w:World} {x:ref01_whole} {u0 u1:Value} (h:k_ref01_whole.R M w x [u0,u1]):∃ (A1:Option Addr) (c1:Nat),u0= .slice A1 x.d.length c1/\u1= .bool x.minus/\x.d.length<=c1/\x.d.length<=281474976710656/\Rd (Kd.int .u32) M w A1 x.d:=by
 obtain ⟨a0,b0,hq,h0_0,h0_1,h0_2⟩:=h
 simp only [List.cons.injEq,and_true] at hq
 obtain ⟨rfl,rfl⟩:=hq
 exact ⟨_,_,rfl,rfl,h0_0,h0_1,h0_2⟩
structure ref01_Q where
 n:ref01_whole
 d:ref01_whole
instance:Inhabited ref01_Q:=⟨⟨default,default⟩⟩
def k_ref01_Q:Kd ref01_Q where
 sz:=4
 R M w x cs:=∃ (u0_0:Value) (u0_1:Value) (u1_0:Value) (u1_1:Value),cs= [u0_0,u0_1,u1_0,u1_1]/\k_ref01_whole.R M w x.n [u0_0,u0_1]/\k_ref01_whole.R M w x.d [u1_0,u1_1]
 len h:=by obtain ⟨u0_0,u0_1,u1_0,u1_1,rfl,h0,h1⟩:=h;rfl
 one h u hu:=by
  obtain ⟨u0_0,u0_1,u1_0,u1_1,rfl,h0,h1⟩:=h;skip
  simp only [List.mem_cons,List.not_mem_nil,or_false] at hu
  rcases hu with rfl | rfl | rfl | rfl
  ·exact k_ref01_whole.one h0 _ (by simp)
  ·exact k_ref01_whole.one h0 _ (by simp)
  ·exact k_ref01_whole.one h1 _ (by simp)
  ·exact k_ref01_whole.one h1 _ (by simp)
 to h k:=by obtain ⟨u0_0,u0_1,u1_0,u1_1,rfl,h0,h1⟩:=h;exact ⟨u0_0,u0_1,u1_0,u1_1,rfl,k_ref01_whole.to h0 k,k_ref01_whole.to h1 k⟩
theorem k_ref01_Q_zero (M:Nat->Prop) (w:World):k_ref01_Q.R M w (⟨(⟨[],false⟩:ref01_whole),(⟨[],false⟩:ref01_whole)⟩:ref01_Q) [.slice none 0 0,.bool false,.slice none 0 0,.bool false]:=⟨_,_,_,_,rfl,k_ref01_whole_zero _ _,k_ref01_whole_zero _ _⟩
theorem k_ref01_Q_o {M:Nat->Prop} {w:World} {x:ref01_Q} {u0 u1 u2 u3:Value} (h:k_ref01_Q.R M w x [u0,u1,u2,u3]):∃ (A1:Option Addr) (c1:Nat) (A2:Option Addr) (c2:Nat),u0= .slice A1 x.n.d.length c1/\u1= .bool x.n.minus/\u2= .slice A2 x.d.d.length c2/\u3= .bool x.d.minus/\k_ref01_whole.R M w x.n [.slice A1 x.n.d.length c1,.bool x.n.minus]/\x.n.d.length<=c1/\x.n.d.length<=281474976710656/\Rd (Kd.int .u32) M w A1 x.n.d/\k_ref01_whole.R M w x.d [.slice A2 x.d.d.length c2,.bool x.d.minus]/\x.d.d.length<=c2/\x.d.d.length<=281474976710656/\Rd (Kd.int .u32) M w A2 x.d.d:=by
 obtain ⟨s0_0,s0_1,s1_0,s1_1,hq,h0,h1⟩:=h
 simp only [List.cons.injEq,and_true] at hq
 obtain ⟨rfl,rfl,rfl,rfl⟩:=hq
 have k0:=h0
 obtain ⟨v0_0,v0_1,rfl,rfl,f0_0,f0_1,f0_2⟩:=k_ref01_whole_o h0
 have k1:=h1
 obtain ⟨v1_0,v1_1,rfl,rfl,f1_0,f1_1,f1_2⟩:=k_ref01_whole_o h1
 exact ⟨_,_,_,_,rfl,rfl,rfl,rfl,k0,f0_0,f0_1,f0_2,k1,f1_0,f1_1,f1_2⟩
end Go.Proofs.Ytgbmmbfminafnaa.E
