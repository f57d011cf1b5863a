/- Kinds of structs. -/
import Derived.Test.YtbjnmmgnonldnaaKE11
set_option linter.unusedVariables false
set_option linter.unusedSimpArgs false
set_option maxRecDepth 100000
namespace Go.Proofs.Ytbjnmmgnonldnaa.E
open Go Go.RowKit
structure api_Incidence where
 Rows:Int
 Cols:Int
 E:(List (List Int))
instance:Inhabited api_Incidence:=⟨⟨0,0,[]⟩⟩
def k_api_Incidence:Kd api_Incidence where
 sz:=3
 R M w x cs:=∃ (A2:Option Addr) (c2:Nat),cs= [.int .i64 x.Rows,.int .i64 x.Cols,.slice A2 x.E.length c2]/\InK .i64 x.Rows/\InK .i64 x.Cols/\x.E.length<=c2/\x.E.length<=281474976710656/\Rd (Kd.slice (Kd.int .i64)) M w A2 x.E
 len h:=by obtain ⟨A2,c2,rfl,h0,h1,h2,h3,h4⟩:=h;rfl
 one h u hu:=by
  obtain ⟨A2,c2,rfl,h0,h1,h2,h3,h4⟩:=h;skip
  simp only [List.mem_cons,List.not_mem_nil,or_false] at hu
  rcases hu with rfl | rfl | rfl
  ·rfl
  ·rfl
  ·rfl
 to h k:=by obtain ⟨A2,c2,rfl,h0,h1,h2,h3,h4⟩:=h;exact ⟨A2,c2,rfl,h0,h1,h2,h3,h4.to k⟩
theorem k_api_Incidence_zero (M:Nat->Prop) (w:World):k_api_Incidence.R M w (⟨0,0,[]⟩:api_Incidence) [.int .i64 0,.int .i64 0,.slice none 0 0]:=⟨none,0,rfl,by simp [InK],by simp [InK],Nat.le_refl _,Nat.zero_le _,.inl rfl⟩
theorem k_api_Incidence_o {M:Nat->Prop} {w:World} {x:api_Incidence} {u0 u1 u2:Value} (h:k_api_Incidence.R M w x [u0,u1,u2]):∃ (A1:Option Addr) (c1:Nat),u0= .int .i64 x.Rows/\u1= .int .i64 x.Cols/\u2= .slice A1 x.E.length c1/\InK .i64 x.Rows/\InK .i64 x.Cols/\x.E.length<=c1/\x.E.length<=281474976710656/\Rd (Kd.slice (Kd.int .i64)) M w A1 x.E:=by
 obtain ⟨a2,b2,hq,h0,h1,h2_0,h2_1,h2_2⟩:=h
 simp only [List.cons.injEq,and_true] at hq
 obtain ⟨rfl,rfl,rfl⟩:=hq
 exact ⟨_,_,rfl,rfl,rfl,h0,h1,h2_0,h2_1,h2_2⟩
structure api_Diag where
 M:api_Incidence
 Faults:(List (List Int))
instance:Inhabited api_Diag:=⟨⟨default,[]⟩⟩
def k_api_Diag:Kd api_Diag where
 sz:=4
 R M w x cs:=∃ (u0_0:Value) (u0_1:Value) (u0_2:Value) (A1:Option Addr) (c1:Nat),cs= [u0_0,u0_1,u0_2,.slice A1 x.Faults.length c1]/\k_api_Incidence.R M w x.M [u0_0,u0_1,u0_2]/\x.Faults.length<=c1/\x.Faults.length<=281474976710656/\Rd (Kd.slice (Kd.int .i64)) M w A1 x.Faults
 len h:=by obtain ⟨u0_0,u0_1,u0_2,A1,c1,rfl,h0,h1,h2,h3⟩:=h;rfl
 one h u hu:=by
  obtain ⟨u0_0,u0_1,u0_2,A1,c1,rfl,h0,h1,h2,h3⟩:=h;skip
  simp only [List.mem_cons,List.not_mem_nil,or_false] at hu
  rcases hu with rfl | rfl | rfl | rfl
  ·exact k_api_Incidence.one h0 _ (by simp)
  ·exact k_api_Incidence.one h0 _ (by simp)
  ·exact k_api_Incidence.one h0 _ (by simp)
  ·rfl
 to h k:=by obtain ⟨u0_0,u0_1,u0_2,A1,c1,rfl,h0,h1,h2,h3⟩:=h;exact ⟨u0_0,u0_1,u0_2,A1,c1,rfl,k_api_Incidence.to h0 k,h1,h2,h3.to k⟩
theorem k_api_Diag_zero (M:Nat->Prop) (w:World):k_api_Diag.R M w (⟨(⟨0,0,[]⟩:api_Incidence),[]⟩:api_Diag) [.int .i64 0,.int .i64 0,.slice none 0 0,.slice none 0 0]:=⟨_,_,_,none,0,rfl,k_api_Incidence_zero _ _,Nat.le_refl _,Nat.zero_le _,.inl rfl⟩
theorem k_api_Diag_o {M:Nat->Prop} {w:World} {x:api_Diag} {u0 u1 u2 u3:Value} (h:k_api_Diag.R M w x [u0,u1,u2,u3]):∃ (A1:Option Addr) (c1:Nat) (A2:Option Addr) (c2:Nat),u0= .int .i64 x.M.Rows/\u1= .int .i64 x.M.Cols/\u2= .slice A1 x.M.E.length c1/\u3= .slice A2 x.Faults.length c2/\k_api_Incidence.R M w x.M [.int .i64 x.M.Rows,.int .i64 x.M.Cols,.slice A1 x.M.E.length c1]/\InK .i64 x.M.Rows/\InK .i64 x.M.Cols/\x.M.E.length<=c1/\x.M.E.length<=281474976710656/\Rd (Kd.slice (Kd.int .i64)) M w A1 x.M.E/\x.Faults.length<=c2/\x.Faults.length<=281474976710656/\Rd (Kd.slice (Kd.int .i64)) M w A2 x.Faults:=by
 obtain ⟨s0_0,s0_1,s0_2,a1,b1,hq,h0,h1_0,h1_1,h1_2⟩:=h
 simp only [List.cons.injEq,and_true] at hq
 obtain ⟨rfl,rfl,rfl,rfl⟩:=hq
 have k0:=h0
 obtain ⟨v0_0,v0_1,rfl,rfl,rfl,f0_0,f0_1,f0_2,f0_3,f0_4⟩:=k_api_Incidence_o h0
 exact ⟨_,_,_,_,rfl,rfl,rfl,rfl,k0,f0_0,f0_1,f0_2,f0_3,f0_4,h1_0,h1_1,h1_2⟩
structure A2_u64 where
 e0:Int
 e1:Int
instance:Inhabited A2_u64:=⟨⟨0,0⟩⟩
instance:DecidableEq A2_u64:=fun a b=>decidable_of_iff (a.e0=b.e0/\a.e1=b.e1) (by cases a;cases b;simp)
def k_A2_u64:Kd A2_u64 where
 sz:=2
 R M w x cs:=cs= [.int .u64 x.e0,.int .u64 x.e1]/\InK .u64 x.e0/\InK .u64 x.e1
 len h:=by obtain ⟨rfl,h0,h1⟩:=h;rfl
 one h u hu:=by
  obtain ⟨rfl,h0,h1⟩:=h;skip
  simp only [List.mem_cons,List.not_mem_nil,or_false] at hu
  rcases hu with rfl | rfl
  ·rfl
  ·rfl
 to h k:=by obtain ⟨rfl,h0,h1⟩:=h;exact ⟨rfl,h0,h1⟩
theorem k_A2_u64_zero (M:Nat->Prop) (w:World):k_A2_u64.R M w (⟨0,0⟩:A2_u64) [.int .u64 0,.int .u64 0]:=⟨rfl,by simp [InK],by simp [InK]⟩
theorem k_A2_u64_o {M:Nat->Prop} {w:World} {x:A2_u64} {u0 u1:Value} (h:k_A2_u64.R M w x [u0,u1]):u0= .int .u64 x.e0/\u1= .int .u64 x.e1/\InK .u64 x.e0/\InK .u64 x.e1:=by
 obtain ⟨hq,h0,h1⟩:=h
 simp only [List.cons.injEq,and_true] at hq
 obtain ⟨rfl,rfl⟩:=hq
 exact ⟨rfl,rfl,h0,h1⟩
def A2_u64.at_ (x:A2_u64) (i:Int):Int:=if i=0 then x.e0 else x.e1
def A2_u64.put (x:A2_u64) (i:Int) (v:Int):A2_u64:=⟨if i=0 then v else x.e0,if i=1 then v else x.e1⟩
theorem A2_u64.get {x:A2_u64} {i:Int} (h0:0<=i) (h1:i<2): [Value.int .u64 x.e0,Value.int .u64 x.e1][i.toNat]? =some (Value.int .u64 (x.at_ i)):=by
 rcases (by omega:i=0\/i=1) with rfl | rfl <;> rfl
theorem A2_u64.set {x:A2_u64} {i:Int} {v:Int} (h0:0<=i) (h1:i<2):([Value.int .u64 x.e0,Value.int .u64 x.e1].take i.toNat ++ [Value.int .u64 v] ++ [Value.int .u64 x.e0,Value.int .u64 x.e1].drop (i.toNat+1)).toArray=(#[Value.int .u64 ((x.put i v).e0),Value.int .u64 ((x.put i v).e1)]:Array Value):=by
 rcases (by omega:i=0\/i=1) with rfl | rfl <;> rfl
theorem A2_u64.inn {x:A2_u64} {i:Int} (h0:InK .u64 x.e0) (h1:InK .u64 x.e1):InK .u64 (x.at_ i):=by
 unfold A2_u64.at_
 repeat' split
 all_goals assumption
theorem A2_u64.pin0 {x:A2_u64} {i v:Int} (h:InK .u64 x.e0) (hv:InK .u64 v):InK .u64 (x.put i v).e0:=by
 show InK _ (if _ then _ else _)
 split
 ·exact hv
 ·exact h
theorem A2_u64.pin1 {x:A2_u64} {i v:Int} (h:InK .u64 x.e1) (hv:InK .u64 v):InK .u64 (x.put i v).e1:=by
 show InK _ (if _ then _ else _)
 split
 ·exact hv
 ·exact h
structure match_pairs where
 row:(List Int)
 col:(List Int)
instance:Inhabited match_pairs:=⟨⟨[],[]⟩⟩
def k_match_pairs:Kd match_pairs where
 sz:=2
 R M w x cs:=∃ (A0:Option Addr) (c0:Nat) (A1:Option Addr) (c1:Nat),cs= [.slice A0 x.row.length c0,.slice A1 x.col.length c1]/\x.row.length<=c0/\x.row.length<=281474976710656/\Rd (Kd.int .i64) M w A0 x.row/\x.col.length<=c1/\x.col.length<=281474976710656/\Rd (Kd.int .i64) M w A1 x.col
 len h:=by obtain ⟨A0,c0,A1,c1,rfl,h0,h1,h2,h3,h4,h5⟩:=h;rfl
 one h u hu:=by
  obtain ⟨A0,c0,A1,c1,rfl,h0,h1,h2,h3,h4,h5⟩:=h;skip
  simp only [List.mem_cons,List.not_mem_nil,or_false] at hu
  rcases hu with rfl | rfl
  ·rfl
  ·rfl
 to h k:=by obtain ⟨A0,c0,A1,c1,rfl,h0,h1,h2,h3,h4,h5⟩:=h;exact ⟨A0,c0,A1,c1,rfl,h0,h1,h2.to k,h3,h4,h5.to k⟩
theorem k_match_pairs_zero (M:Nat->Prop) (w:World):k_match_pairs.R M w (⟨[],[]⟩:match_pairs) [.slice none 0 0,.slice none 0 0]:=⟨none,0,none,0,rfl,Nat.le_refl _,Nat.zero_le _,.inl rfl,Nat.le_refl _,Nat.zero_le _,.inl rfl⟩
theorem k_match_pairs_o {M:Nat->Prop} {w:World} {x:match_pairs} {u0 u1:Value} (h:k_match_pairs.R M w x [u0,u1]):∃ (A1:Option Addr) (c1:Nat) (A2:Option Addr) (c2:Nat),u0= .slice A1 x.row.length c1/\u1= .slice A2 x.col.length c2/\x.row.length<=c1/\x.row.length<=281474976710656/\Rd (Kd.int .i64) M w A1 x.row/\x.col.length<=c2/\x.col.length<=281474976710656/\Rd (Kd.int .i64) M w A2 x.col:=by
 obtain ⟨a0,b0,a1,b1,hq,h0_0,h0_1,h0_2,h1_0,h1_1,h1_2⟩:=h
 simp only [List.cons.injEq,and_true] at hq
 obtain ⟨rfl,rfl⟩:=hq
 exact ⟨_,_,_,_,rfl,rfl,h0_0,h0_1,h0_2,h1_0,h1_1,h1_2⟩
structure A10_bool where
 e0:Bool
 e1:Bool
 e2:Bool
 e3:Bool
 e4:Bool
 e5:Bool
 e6:Bool
 e7:Bool
 e8:Bool
 e9:Bool
instance:Inhabited A10_bool:=⟨⟨false,false,false,false,false,false,false,false,false,false⟩⟩
instance:DecidableEq A10_bool:=fun a b=>decidable_of_iff (a.e0=b.e0/\a.e1=b.e1/\a.e2=b.e2/\a.e3=b.e3/\a.e4=b.e4/\a.e5=b.e5/\a.e6=b.e6/\a.e7=b.e7/\a.e8=b.e8/\a.e9=b.e9) (by cases a;cases b;simp)
def k_A10_bool:Kd A10_bool where
 sz:=10
 R M w x cs:=cs= [.bool x.e0,.bool x.e1,.bool x.e2,.bool x.e3,.bool x.e4,.bool x.e5,.bool x.e6,.bool x.e7,.bool x.e8,.bool x.e9]
 len h:=by subst h;rfl
 one h u hu:=by
  subst h;skip
  simp only [List.mem_cons,List.not_mem_nil,or_false] at hu
  rcases hu with rfl | rfl | rfl | rfl | rfl | rfl | rfl | rfl | rfl | rfl
  ·rfl
  ·rfl
  ·rfl
  ·rfl
  ·rfl
  ·rfl
  ·rfl
  ·rfl
  ·rfl
  ·rfl
 to h k:=by subst h;rfl
theorem k_A10_bool_zero (M:Nat->Prop) (w:World):k_A10_bool.R M w (⟨false,false,false,false,false,false,false,false,false,false⟩:A10_bool) [.bool false,.bool false,.bool false,.bool false,.bool false,.bool false,.bool false,.bool false,.bool false,.bool false]:=rfl
theorem k_A10_bool_o {M:Nat->Prop} {w:World} {x:A10_bool} {u0 u1 u2 u3 u4 u5 u6 u7 u8 u9:Value} (h:k_A10_bool.R M w x [u0,u1,u2,u3,u4,u5,u6,u7,u8,u9]):u0= .bool x.e0/\u1= .bool x.e1/\u2= .bool x.e2/\u3= .bool x.e3/\u4= .bool x.e4/\u5= .bool x.e5/\u6= .bool x.e6/\u7= .bool x.e7/\u8= .bool x.e8/\u9= .bool x.e9:=by
 have hq: [u0,u1,u2,u3,u4,u5,u6,u7,u8,u9] = [.bool x.e0,.bool x.e1,.bool x.e2,.bool x.e3,.bool x.e4,.bool x.e5,.bool x.e6,.bool x.e7,.bool x.e8,.bool x.e9]:=h
 simp only [List.cons.injEq,and_true] at hq
 obtain ⟨rfl,rfl,rfl,rfl,rfl,rfl,rfl,rfl,rfl,rfl⟩:=hq
 exact ⟨rfl,rfl,rfl,rfl,rfl,rfl,rfl,rfl,rfl,rfl⟩
def A10_bool.at_ (x:A10_bool) (i:Int):Bool:=if i=0 then x.e0 else if i=1 then x.e1 else if i=2 then x.e2 else if i=3 then x.e3 else if i=4 then x.e4 else if i=5 then x.e5 else if i=6 then x.e6 else if i=7 then x.e7 else if i=8 then x.e8 else x.e9
def A10_bool.put (x:A10_bool) (i:Int) (v:Bool):A10_bool:=⟨if i=0 then v else x.e0,if i=1 then v else x.e1,if i=2 then v else x.e2,if i=3 then v else x.e3,if i=4 then v else x.e4,if i=5 then v else x.e5,if i=6 then v else x.e6,if i=7 then v else x.e7,if i=8 then v else x.e8,if i=9 then v else x.e9⟩
theorem A10_bool.get {x:A10_bool} {i:Int} (h0:0<=i) (h1:i<10): [Value.bool x.e0,Value.bool x.e1,Value.bool x.e2,Value.bool x.e3,Value.bool x.e4,Value.bool x.e5,Value.bool x.e6,Value.bool x.e7,Value.bool x.e8,Value.bool x.e9][i.toNat]? =some (Value.bool (x.at_ i)):=by
 rcases (by omega:i=0\/i=1\/i=2\/i=3\/i=4\/i=5\/i=6\/i=7\/i=8\/i=9) with rfl | rfl | rfl | rfl | rfl | rfl | rfl | rfl | rfl | rfl <;> rfl
theorem A10_bool.set {x:A10_bool} {i:Int} {v:Bool} (h0:0<=i) (h1:i<10):([Value.bool x.e0,Value.bool x.e1,Value.bool x.e2,Value.bool x.e3,Value.bool x.e4,Value.bool x.e5,Value.bool x.e6,Value.bool x.e7,Value.bool x.e8,Value.bool x.e9].take i.toNat ++ [Value.bool v] ++ [Value.bool x.e0,Value.bool x.e1,Value.bool x.e2,Value.bool x.e3,Value.bool x.e4,Value.bool x.e5,Value.bool x.e6,Value.bool x.e7,Value.bool x.e8,Value.bool x.e9].drop (i.toNat+1)).toArray=(#[Value.bool ((x.put i v).e0),Value.bool ((x.put i v).e1),Value.bool ((x.put i v).e2),Value.bool ((x.put i v).e3),Value.bool ((x.put i v).e4),Value.bool ((x.put i v).e5),Value.bool ((x.put i v).e6),Value.bool ((x.put i v).e7),Value.bool ((x.put i v).e8),Value.bool ((x.put i v).e9)]:Array Value):=by
 rcases (by omega:i=0\/i=1\/i=2\/i=3\/i=4\/i=5\/i=6\/i=7\/i=8\/i=9) with rfl | rfl | rfl | rfl | rfl | rfl | rfl | rfl | rfl | rfl <;> rfl
def A10_bool.bits (x:A10_bool):List Bool:=[x.e0,x.e1,x.e2,x.e3,x.e4,x.e5,x.e6,x.e7,x.e8,x.e9]
theorem A10_bool.bits_inj (x y:A10_bool) (h:x.bits=y.bits):x=y:=by
 cases x;cases y
 simp only [A10_bool.bits,List.cons.injEq,and_true] at h
 obtain ⟨rfl,rfl,rfl,rfl,rfl,rfl,rfl,rfl,rfl,rfl⟩:=h
 rfl
def kq_A10_bool:Kq A10_bool Bool:=⟨fun k=>.agg ((A10_bool.bits k).map Value.bool).toArray,.bool,fun _=>True⟩
structure fault_tester where
 d:api_Diag
 asks:(List (A10_bool×Bool))
instance:Inhabited fault_tester:=⟨⟨default,[]⟩⟩
end Go.Proofs.Ytbjnmmgnonldnaa.E
