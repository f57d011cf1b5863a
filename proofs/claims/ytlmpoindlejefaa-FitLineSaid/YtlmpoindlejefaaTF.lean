/- What functions compute. -/
import Derived.Test.YtlmpoindlejefaaTK
set_option linter.unusedVariables false
set_option linter.unusedSimpArgs false
set_option maxRecDepth 100000
namespace Go.Proofs.Ytlmpoindlejefaa.E
open Go Go.RowKit
def str_0 : ByteArray := ⟨#[0, 1, 2, 2, 3, 3, 3, 3, 4, 4, 4, 4, 4, 4, 4, 4, 5, 5, 5, 5, 5, 5, 5, 5, 5, 5, 5, 5, 5, 5, 5, 5, 6, 6, 6, 6, 6, 6, 6, 6, 6, 6, 6, 6, 6, 6, 6, 6, 6, 6, 6, 6, 6, 6, 6, 6, 6, 6, 6, 6, 6, 6, 6, 6, 7, 7, 7, 7, 7, 7, 7, 7, 7, 7, 7, 7, 7, 7, 7, 7, 7, 7, 7, 7, 7, 7, 7, 7, 7, 7, 7, 7, 7, 7, 7, 7, 7, 7, 7, 7, 7, 7, 7, 7, 7, 7, 7, 7, 7, 7, 7, 7, 7, 7, 7, 7, 7, 7, 7, 7, 7, 7, 7, 7, 7, 7, 7, 7, 8, 8, 8, 8, 8, 8, 8, 8, 8, 8, 8, 8, 8, 8, 8, 8, 8, 8, 8, 8, 8, 8, 8, 8, 8, 8, 8, 8, 8, 8, 8, 8, 8, 8, 8, 8, 8, 8, 8, 8, 8, 8, 8, 8, 8, 8, 8, 8, 8, 8, 8, 8, 8, 8, 8, 8, 8, 8, 8, 8, 8, 8, 8, 8, 8, 8, 8, 8, 8, 8, 8, 8, 8, 8, 8, 8, 8, 8, 8, 8, 8, 8, 8, 8, 8, 8, 8, 8, 8, 8, 8, 8, 8, 8, 8, 8, 8, 8, 8, 8, 8, 8, 8, 8, 8, 8, 8, 8, 8, 8, 8, 8, 8, 8, 8, 8, 8, 8, 8, 8, 8, 8, 8, 8, 8, 8, 8, 8]⟩
/-- isocline/num.Valid -/
def num_Valid.j1 (p38 : Int) : W Bool :=
  if p38 = 1 then (W.ret true) else (W.ret (decide (p38 = (-1))))
def num_Valid.l1 (p47 : Int) (p49 : Int) : W (Ctl (Int × Int) Bool) :=
  if p49 ≠ 0 then (W.req (p49 ≠ 0) (W.ret (.go (p49, (p47.tmod p49))))) else (W.ret (.brk (p47, p49)))
def num_Valid.f (x0 : api_Rat) : W Bool :=
  if x0.D < 1 then (W.ret false) else (if x0.D > 1000000000000 then (W.ret false) else (if x0.N > 1000000000000 then (W.ret false) else (if x0.N < (-1000000000000) then (W.ret false) else (W.bind (W.loop (fun (s : Int × Int) => num_Valid.l1 s.1 s.2) (x0.N, x0.D)) (Lp.on (fun s => num_Valid.j1 s.1) (fun r => W.ret r))))))
/-- isocline/num.AllValid -/
def num_AllValid.j1 : W Bool :=
  W.ret true
def num_AllValid.l1 (x0 : (List api_Rat)) (p16 : Int) : W (Ctl Int Bool) :=
  if p16 < (x0.length : Int) then (W.req ((0 : Int) ≤ p16 ∧ p16 < (x0.length : Int)) (W.bind (num_Valid.f (gi x0 p16)) (fun r60 => if r60 = true then (W.ret (.go (p16 + 1))) else (W.ret (.out false))))) else (W.ret (.brk p16))
def num_AllValid.f (x0 : (List api_Rat)) : W Bool :=
  W.bind (W.loop (fun (s : Int) => num_AllValid.l1 x0 s) 0) (Lp.on (fun s => num_AllValid.j1) (fun r => W.ret r))
/-- isocline/num.I -/
def num_I.f (x0 : Int) : W num_Z :=
  W.ret (⟨x0, [], false⟩ : num_Z)
/-- isocline/num.Int -/
def num_Int.f (x0 : Int) : W num_Q :=
  W.bind (num_I.f x0) (fun r14 => W.bind (num_I.f 1) (fun r32 => W.ret (⟨r14, r32⟩ : num_Q)))
/-- isocline/fit.zeros -/
def fit_zeros.j1 (p20 : (List num_Q)) : W (List num_Q) :=
  W.ret p20
def fit_zeros.l1 (x0 : Int) (p34 : (List num_Q)) (p35 : Int) : W (Ctl ((List num_Q) × Int) (List num_Q)) :=
  if p35 < ((List.replicate x0.toNat (⟨(⟨(0 : Int), [], false⟩ : num_Z), (⟨(0 : Int), [], false⟩ : num_Z)⟩ : num_Q)).length : Int) then (W.bind (num_Int.f 0) (fun r46 => W.req ((0 : Int) ≤ p35 ∧ p35 < (p34.length : Int)) (W.ret (.go ((p34.set p35.toNat r46), (p35 + 1)))))) else (W.ret (.brk (p34, p35)))
def fit_zeros.f (x0 : Int) : W (List num_Q) :=
  W.req ((0 : Int) ≤ x0 ∧ x0 ≤ (3518437208883 : Int)) (W.bind (W.loop (fun (s : (List num_Q) × Int) => fit_zeros.l1 x0 s.1 s.2) ((List.replicate x0.toNat (⟨(⟨(0 : Int), [], false⟩ : num_Z), (⟨(0 : Int), [], false⟩ : num_Z)⟩ : num_Q)), 0)) (Lp.on (fun s => fit_zeros.j1 s.1) (fun r => W.ret r)))
/-- isocline/fit.none -/
def fit_none.j1 (x0 : Int) (p67 : Int) (p70 : (List (List num_Q))) (p74 : (List num_Q)) (p76 : num_Q) : W fit_sums :=
  W.bind (fit_zeros.f x0) (fun r109 => W.ret (⟨p67, p70, r109, p76⟩ : fit_sums))
def fit_none.l1 (x0 : Int) (p155 : Int) (p158 : (List (List num_Q))) (p162 : (List num_Q)) (p164 : num_Q) (p173 : Int) : W (Ctl (Int × (List (List num_Q)) × (List num_Q) × num_Q × Int) fit_sums) :=
  if p173 < x0 then (W.bind (fit_zeros.f x0) (fun r215 => W.req (p158.length + 1 ≤ 5864062014805) (W.ret (.go (p155, (p158 ++ [r215]), p162, p164, (p173 + 1)))))) else (W.ret (.brk (p155, p158, p162, p164, p173)))
def fit_none.f (x0 : Int) : W fit_sums :=
  W.bind (num_Int.f 0) (fun r14 => W.bind (W.loop (fun (s : Int × (List (List num_Q)) × (List num_Q) × num_Q × Int) => fit_none.l1 x0 s.1 s.2.1 s.2.2.1 s.2.2.2.1 s.2.2.2.2) (x0, [], [], r14, 0)) (Lp.on (fun s => fit_none.j1 x0 s.1 s.2.1 s.2.2.1 s.2.2.2.1) (fun r => W.ret r)))
/-- isocline/num.Of -/
def num_Of.f (x0 : api_Rat) : W num_Q :=
  W.bind (num_I.f x0.N) (fun r29 => W.bind (num_I.f x0.D) (fun r47 => W.ret (⟨r29, r47⟩ : num_Q)))
/-- (isocline/num.Z).words -/
def num_Z_words.j1 (x0 : num_Z) (p29 : Int) : W ((List Int) × Bool) :=
  if p29 = 0 then (W.ret ([], false)) else (if (ishr .u64 p29 32) = 0 then (W.ret ([(p29 % 4294967296)], (decide (x0.v < 0)))) else (W.ret ([(p29 % 4294967296), ((ishr .u64 p29 32) % 4294967296)], (decide (x0.v < 0)))))
def num_Z_words.f (x0 : num_Z) : W ((List Int) × Bool) :=
  if x0.m = [] then (if x0.v < 0 then (num_Z_words.j1 x0 ((0 - (x0.v % 18446744073709551616)) % 18446744073709551616)) else (num_Z_words.j1 x0 (x0.v % 18446744073709551616))) else (W.ret (x0.m, x0.neg))
/-- isocline/num.made -/
def num_made.j2 (p16 : (List Int)) (x1 : Bool) (p27 : num_Z) : W num_Z :=
  W.req (p16 ≠ []) (W.ret (⟨0, p16, x1⟩ : num_Z))
def num_made.j3 (x1 : Bool) (p16 : (List Int)) (p61 : Int) : W num_Z :=
  if p61 < 9223372036854775808 then (if x1 = true then (W.req (I64 (-(IntKind.i64.wrap p61))) (W.ret (⟨(-(IntKind.i64.wrap p61)), [], false⟩ : num_Z))) else (W.ret (⟨(IntKind.i64.wrap p61), [], false⟩ : num_Z))) else (num_made.j2 p16 x1 (⟨(0 : Int), [], false⟩ : num_Z))
def num_made.l1 (p16 : (List Int)) (p100 : Int) (p102 : Int) : W (Ctl (Int × Int) num_Z) :=
  if p102 ≥ 0 then (W.req ((0 : Int) ≤ p102 ∧ p102 < (p16.length : Int)) (W.ret (.go ((ior .u64 (ishl .u64 p100 32) (gi p16 p102)), (p102 - 1))))) else (W.ret (.brk (p100, p102)))
def num_made.j1 (x1 : Bool) (p16 : (List Int)) : W num_Z :=
  if (p16.length : Int) ≤ 2 then (W.bind (W.loop (fun (s : Int × Int) => num_made.l1 p16 s.1 s.2) (0, ((p16.length : Int) - 1))) (Lp.on (fun s => num_made.j3 x1 p16 s.1) (fun r => W.ret r))) else (num_made.j2 p16 x1 (⟨(0 : Int), [], false⟩ : num_Z))
def num_made.l2 (p131 : (List Int)) : W (Ctl (List Int) num_Z) :=
  if (p131.length : Int) > 0 then (W.req ((0 : Int) ≤ ((p131.length : Int) - 1) ∧ ((p131.length : Int) - 1) < (p131.length : Int)) (if (gi p131 ((p131.length : Int) - 1)) = 0 then (W.req ((0 : Int) ≤ ((p131.length : Int) - 1) ∧ ((p131.length : Int) - 1) ≤ (p131.length : Int)) (W.ret (.go (p131.take ((p131.length : Int) - 1).toNat)))) else (W.ret (.brk p131)))) else (W.ret (.brk p131))
def num_made.f (x0 : (List Int)) (x1 : Bool) : W num_Z :=
  W.bind (W.loop (fun (s : (List Int)) => num_made.l2 s) x0) (Lp.on (fun s => num_made.j1 x1 s) (fun r => W.ret r))
/-- (isocline/num.Z).Neg -/
def num_Z_Neg.j1 (x0 : num_Z) (p30 : num_Z) : W num_Z :=
  W.bind (num_Z_words.f x0) (fun r49 => W.bind (num_made.f r49.1 (!r49.2)) (fun r64 => W.ret r64))
def num_Z_Neg.f (x0 : num_Z) : W num_Z :=
  if x0.m = [] then (if x0.v ≠ (-9223372036854775808) then (W.req (I64 (-x0.v)) (W.ret (⟨(-x0.v), [], false⟩ : num_Z))) else (num_Z_Neg.j1 x0 (⟨(0 : Int), [], false⟩ : num_Z))) else (num_Z_Neg.j1 x0 (⟨(0 : Int), [], false⟩ : num_Z))
/-- isocline/num.addWords -/
def num_addWords.j2 (p40 : (List Int)) (p42 : Int) : W (List Int) :=
  W.req (p40.length + 1 ≤ 35184372088832) (W.ret (p40 ++ [(p42 % 4294967296)]))
def num_addWords.j3 (p76 : (List Int)) (p80 : Int) (p112 : Int) : W (Ctl ((List Int) × Int × Int) (List Int)) :=
  W.req (p76.length + 1 ≤ 35184372088832) (W.ret (.go ((p76 ++ [(p112 % 4294967296)]), (ishr .u64 p112 32), (p80 + 1))))
def num_addWords.l1 (p7 : (List Int)) (p13 : (List Int)) (p76 : (List Int)) (p78 : Int) (p80 : Int) : W (Ctl ((List Int) × Int × Int) (List Int)) :=
  if p80 < (p7.length : Int) then (W.req ((0 : Int) ≤ p80 ∧ p80 < (p7.length : Int)) (if p80 < (p13.length : Int) then (W.req ((0 : Int) ≤ p80 ∧ p80 < (p13.length : Int)) (num_addWords.j3 p76 p80 (((((gi p7 p80) + p78) % 18446744073709551616) + (gi p13 p80)) % 18446744073709551616))) else (num_addWords.j3 p76 p80 (((gi p7 p80) + p78) % 18446744073709551616)))) else (W.ret (.brk (p76, p78, p80)))
def num_addWords.j1 (p7 : (List Int)) (p13 : (List Int)) : W (List Int) :=
  W.req ((0 : Int) ≤ ((p7.length : Int) + 1) ∧ ((p7.length : Int) + 1) ≤ (70368744177664 : Int)) (W.bind (W.loop (fun (s : (List Int) × Int × Int) => num_addWords.l1 p7 p13 s.1 s.2.1 s.2.2) ([], 0, 0)) (Lp.on (fun s => num_addWords.j2 s.1 s.2.1) (fun r => W.ret r)))
def num_addWords.f (x0 : (List Int)) (x1 : (List Int)) : W (List Int) :=
  if (x0.length : Int) < (x1.length : Int) then (num_addWords.j1 x1 x0) else (num_addWords.j1 x0 x1)
/-- isocline/num.cmpWords -/
def num_cmpWords.j1 : W Int :=
  W.ret 0
def num_cmpWords.l1 (x0 : (List Int)) (x1 : (List Int)) (p35 : Int) : W (Ctl Int Int) :=
  if p35 ≥ 0 then (W.req ((0 : Int) ≤ p35 ∧ p35 < (x0.length : Int)) (W.req ((0 : Int) ≤ p35 ∧ p35 < (x1.length : Int)) (if (gi x0 p35) ≠ (gi x1 p35) then (W.req ((0 : Int) ≤ p35 ∧ p35 < (x0.length : Int)) (W.req ((0 : Int) ≤ p35 ∧ p35 < (x1.length : Int)) (if (gi x0 p35) < (gi x1 p35) then (W.ret (.out (-1))) else (W.ret (.out 1))))) else (W.ret (.go (p35 - 1)))))) else (W.ret (.brk p35))
def num_cmpWords.f (x0 : (List Int)) (x1 : (List Int)) : W Int :=
  if (x0.length : Int) ≠ (x1.length : Int) then (if (x0.length : Int) < (x1.length : Int) then (W.ret (-1)) else (W.ret 1)) else (W.bind (W.loop (fun (s : Int) => num_cmpWords.l1 x0 x1 s) ((x0.length : Int) - 1)) (Lp.on (fun s => num_cmpWords.j1) (fun r => W.ret r)))
/-- isocline/num.subWords -/
def num_subWords.j1 (p23 : (List Int)) : W (List Int) :=
  W.ret p23
def num_subWords.j3 (p35 : (List Int)) (p39 : Int) (p81 : Int) (p83 : Int) : W (Ctl ((List Int) × Int × Int) (List Int)) :=
  W.req (p35.length + 1 ≤ 35184372088832) (W.ret (.go ((p35 ++ [(p83 % 4294967296)]), p81, (p39 + 1))))
def num_subWords.j2 (p35 : (List Int)) (p39 : Int) (p72 : Int) : W (Ctl ((List Int) × Int × Int) (List Int)) :=
  if p72 < 0 then (W.req (I64 (p72 + 4294967296)) (num_subWords.j3 p35 p39 1 (p72 + 4294967296))) else (num_subWords.j3 p35 p39 0 p72)
def num_subWords.l1 (x0 : (List Int)) (x1 : (List Int)) (p35 : (List Int)) (p37 : Int) (p39 : Int) : W (Ctl ((List Int) × Int × Int) (List Int)) :=
  if p39 < (x0.length : Int) then (W.req ((0 : Int) ≤ p39 ∧ p39 < (x0.length : Int)) (W.req (I64 ((gi x0 p39) - p37)) (if p39 < (x1.length : Int) then (W.req ((0 : Int) ≤ p39 ∧ p39 < (x1.length : Int)) (W.req (I64 (((gi x0 p39) - p37) - (gi x1 p39))) (num_subWords.j2 p35 p39 (((gi x0 p39) - p37) - (gi x1 p39))))) else (num_subWords.j2 p35 p39 ((gi x0 p39) - p37))))) else (W.ret (.brk (p35, p37, p39)))
def num_subWords.f (x0 : (List Int)) (x1 : (List Int)) : W (List Int) :=
  W.req ((0 : Int) ≤ (x0.length : Int) ∧ (x0.length : Int) ≤ (70368744177664 : Int)) (W.bind (W.loop (fun (s : (List Int) × Int × Int) => num_subWords.l1 x0 x1 s.1 s.2.1 s.2.2) ([], 0, 0)) (Lp.on (fun s => num_subWords.j1 s.1) (fun r => W.ret r)))
/-- (isocline/num.Z).Add -/
def num_Z_Add.j1 (x0 : num_Z) (x1 : num_Z) (p44 : num_Z) : W num_Z :=
  W.bind (num_Z_words.f x0) (fun r65 => W.bind (num_Z_words.f x1) (fun r83 => if (r65.2 == r83.2) = true then (W.bind (num_addWords.f r65.1 r83.1) (fun r103 => W.bind (num_made.f r103 r65.2) (fun r129 => W.ret r129))) else (W.bind (num_cmpWords.f r65.1 r83.1) (fun r156 => if r156 ≥ 0 then (W.bind (num_subWords.f r65.1 r83.1) (fun r167 => W.bind (num_made.f r167 r65.2) (fun r193 => W.ret r193))) else (W.bind (num_subWords.f r83.1 r65.1) (fun r219 => W.bind (num_made.f r219 r83.2) (fun r245 => W.ret r245)))))))
def num_Z_Add.f (x0 : num_Z) (x1 : num_Z) : W num_Z :=
  if x0.m = [] then (if x1.m = [] then (if ((decide ((IntKind.i64.wrap (x0.v + x1.v)) > x0.v)) == (decide (x1.v > 0))) = true then (W.ret (⟨(IntKind.i64.wrap (x0.v + x1.v)), [], false⟩ : num_Z)) else (num_Z_Add.j1 x0 x1 (⟨(0 : Int), [], false⟩ : num_Z))) else (num_Z_Add.j1 x0 x1 (⟨(0 : Int), [], false⟩ : num_Z))) else (num_Z_Add.j1 x0 x1 (⟨(0 : Int), [], false⟩ : num_Z))
/-- (isocline/num.Z).Sub -/
def num_Z_Sub.f (x0 : num_Z) (x1 : num_Z) : W num_Z :=
  W.bind (num_Z_Neg.f x1) (fun r53 => W.bind (num_Z_Add.f x0 r53) (fun r72 => W.ret r72))
/-- (isocline/num.Z).Sign -/
def num_Z_Sign.j1 (x0 : num_Z) (p23 : Bool) : W Int :=
  if p23 = true then (W.ret (-1)) else (if x0.m = [] then (if x0.v = 0 then (W.ret 0) else (W.ret 1)) else (W.ret 1))
def num_Z_Sign.f (x0 : num_Z) : W Int :=
  if x0.m = [] then (if x0.v < 0 then (num_Z_Sign.j1 x0 true) else (num_Z_Sign.j1 x0 false)) else (if x0.neg = true then (num_Z_Sign.j1 x0 true) else (num_Z_Sign.j1 x0 false))
/-- (isocline/num.Z).Cmp -/
def num_Z_Cmp.j1 (x0 : num_Z) (x1 : num_Z) : W Int :=
  W.bind (num_Z_Sub.f x0 x1) (fun r40 => W.bind (num_Z_Sign.f r40) (fun r57 => W.ret r57))
def num_Z_Cmp.f (x0 : num_Z) (x1 : num_Z) : W Int :=
  if x0.m = [] then (if x1.m = [] then (if x0.v < x1.v then (W.ret (-1)) else (if x0.v > x1.v then (W.ret 1) else (W.ret 0))) else (num_Z_Cmp.j1 x0 x1)) else (num_Z_Cmp.j1 x0 x1)
/-- (isocline/num.Q).IsInt -/
def num_Q_IsInt.f (x0 : num_Q) : W Bool :=
  W.bind (num_I.f 1) (fun r32 => W.bind (num_Z_Cmp.f x0.D r32) (fun r51 => W.ret (decide (r51 = 0))))
/-- math/bits.Mul64 -/
def bits_Mul64.f (x0 : Int) (x1 : Int) : W (Int × Int) :=
  W.ret ((((((((ishr .u64 x0 32) * (ishr .u64 x1 32)) % 18446744073709551616) + (ishr .u64 (((((ishr .u64 x0 32) * (iand .u64 x1 4294967295)) % 18446744073709551616) + (ishr .u64 (((iand .u64 x0 4294967295) * (iand .u64 x1 4294967295)) % 18446744073709551616) 32)) % 18446744073709551616) 32)) % 18446744073709551616) + (ishr .u64 (((iand .u64 (((((ishr .u64 x0 32) * (iand .u64 x1 4294967295)) % 18446744073709551616) + (ishr .u64 (((iand .u64 x0 4294967295) * (iand .u64 x1 4294967295)) % 18446744073709551616) 32)) % 18446744073709551616) 4294967295) + (((iand .u64 x0 4294967295) * (ishr .u64 x1 32)) % 18446744073709551616)) % 18446744073709551616) 32)) % 18446744073709551616), ((x0 * x1) % 18446744073709551616))
/-- (isocline/num.Z).Mul -/
def num_Z_Mul.j2 (r65 : (List Int) × Bool) (r83 : (List Int) × Bool) (p119 : (List Int)) : W num_Z :=
  W.bind (num_made.f p119 (!(r65.2 == r83.2))) (fun r135 => W.ret r135)
def num_Z_Mul.j3 (p168 : Int) (p181 : (List Int)) : W (Ctl ((List Int) × Int) num_Z) :=
  W.ret (.go (p181, (p168 + 1)))
def num_Z_Mul.j4 (p168 : Int) (r83 : (List Int) × Bool) (p194 : (List Int)) (p195 : Int) : W (Ctl ((List Int) × Int) num_Z) :=
  W.req (I64 (p168 + (r83.1.length : Int))) (W.req ((0 : Int) ≤ (p168 + (r83.1.length : Int)) ∧ (p168 + (r83.1.length : Int)) < (p194.length : Int)) (num_Z_Mul.j3 p168 (p194.set (p168 + (r83.1.length : Int)).toNat (p195 % 4294967296))))
def num_Z_Mul.l2 (r83 : (List Int) × Bool) (p168 : Int) (r65 : (List Int) × Bool) (p229 : (List Int)) (p230 : Int) (p232 : Int) : W (Ctl ((List Int) × Int × Int) num_Z) :=
  if p232 < (r83.1.length : Int) then (W.req (I64 (p168 + p232)) (W.req ((0 : Int) ≤ (p168 + p232) ∧ (p168 + p232) < (p229.length : Int)) (W.req ((0 : Int) ≤ p168 ∧ p168 < (r65.1.length : Int)) (W.req ((0 : Int) ≤ p232 ∧ p232 < (r83.1.length : Int)) (W.req (I64 (p168 + p232)) (W.req ((0 : Int) ≤ (p168 + p232) ∧ (p168 + p232) < (p229.length : Int)) (W.ret (.go ((p229.set (p168 + p232).toNat ((((((gi p229 (p168 + p232)) + (((gi r65.1 p168) * (gi r83.1 p232)) % 18446744073709551616)) % 18446744073709551616) + p230) % 18446744073709551616) % 4294967296)), (ishr .u64 (((((gi p229 (p168 + p232)) + (((gi r65.1 p168) * (gi r83.1 p232)) % 18446744073709551616)) % 18446744073709551616) + p230) % 18446744073709551616) 32), (p232 + 1)))))))))) else (W.ret (.brk (p229, p230, p232)))
def num_Z_Mul.l1 (r65 : (List Int) × Bool) (r83 : (List Int) × Bool) (p167 : (List Int)) (p168 : Int) : W (Ctl ((List Int) × Int) num_Z) :=
  if p168 < (r65.1.length : Int) then (W.bind (W.loop (fun (s : (List Int) × Int × Int) => num_Z_Mul.l2 r83 p168 r65 s.1 s.2.1 s.2.2) (p167, 0, 0)) (Lp.on (fun s => num_Z_Mul.j4 p168 r83 s.1 s.2.1) (fun r => W.ret (.out r)))) else (W.ret (.brk (p167, p168)))
def num_Z_Mul.j1 (x0 : num_Z) (x1 : num_Z) (p44 : num_Z) : W num_Z :=
  W.bind (num_Z_words.f x0) (fun r65 => W.bind (num_Z_words.f x1) (fun r83 => W.req ((0 : Int) ≤ ((r65.1.length : Int) + (r83.1.length : Int)) ∧ ((r65.1.length : Int) + (r83.1.length : Int)) ≤ (70368744177664 : Int)) (W.bind (W.loop (fun (s : (List Int) × Int) => num_Z_Mul.l1 r65 r83 s.1 s.2) ((List.replicate ((r65.1.length : Int) + (r83.1.length : Int)).toNat (0 : Int)), 0)) (Lp.on (fun s => num_Z_Mul.j2 r65 r83 s.1) (fun r => W.ret r)))))
def num_Z_Mul.j6 (p354 : Int) (x0 : num_Z) (x1 : num_Z) (p361 : Int) : W num_Z :=
  W.bind (bits_Mul64.f p354 p361) (fun r365 => if r365.1 = 0 then (if r365.2 < 9223372036854775808 then (if ((decide (x0.v < 0)) == (decide (x1.v < 0))) = true then (W.ret (⟨(IntKind.i64.wrap r365.2), [], false⟩ : num_Z)) else (W.req (I64 (-(IntKind.i64.wrap r365.2))) (W.ret (⟨(-(IntKind.i64.wrap r365.2)), [], false⟩ : num_Z)))) else (num_Z_Mul.j1 x0 x1 (⟨(0 : Int), [], false⟩ : num_Z))) else (num_Z_Mul.j1 x0 x1 (⟨(0 : Int), [], false⟩ : num_Z)))
def num_Z_Mul.j5 (x1 : num_Z) (x0 : num_Z) (p354 : Int) : W num_Z :=
  if x1.v < 0 then (num_Z_Mul.j6 p354 x0 x1 ((0 - (x1.v % 18446744073709551616)) % 18446744073709551616)) else (num_Z_Mul.j6 p354 x0 x1 (x1.v % 18446744073709551616))
def num_Z_Mul.f (x0 : num_Z) (x1 : num_Z) : W num_Z :=
  if x0.m = [] then (if x1.m = [] then (if x0.v < 0 then (num_Z_Mul.j5 x1 x0 ((0 - (x0.v % 18446744073709551616)) % 18446744073709551616)) else (num_Z_Mul.j5 x1 x0 (x0.v % 18446744073709551616))) else (num_Z_Mul.j1 x0 x1 (⟨(0 : Int), [], false⟩ : num_Z))) else (num_Z_Mul.j1 x0 x1 (⟨(0 : Int), [], false⟩ : num_Z))
/-- (isocline/num.Z).Abs -/
def num_Z_Abs.f (x0 : num_Z) : W num_Z :=
  W.bind (num_Z_Sign.f x0) (fun r31 => if r31 < 0 then (W.bind (num_Z_Neg.f x0) (fun r43 => W.ret r43)) else (W.ret x0))
/-- math/bits.Len32 -/
def bits_Len32.j2 (p15 : Int) (p17 : Int) : W Int :=
  W.req ((0 : Int) ≤ (p15 % 256) ∧ (p15 % 256) < (str_0.size : Int)) (W.req (I64 (p17 + (bix str_0 (p15 % 256)))) (W.ret (p17 + (bix str_0 (p15 % 256)))))
def bits_Len32.j1 (p7 : Int) (p9 : Int) : W Int :=
  if p7 ≥ 256 then (W.req (I64 (p9 + 8)) (bits_Len32.j2 (ishr .u32 p7 8) (p9 + 8))) else (bits_Len32.j2 p7 p9)
def bits_Len32.f (x0 : Int) : W Int :=
  if x0 ≥ 65536 then (bits_Len32.j1 (ishr .u32 x0 16) 16) else (bits_Len32.j1 x0 0)
/-- math/bits.LeadingZeros32 -/
def bits_LeadingZeros32.f (x0 : Int) : W Int :=
  W.bind (bits_Len32.f x0) (fun r5 => W.req (I64 (32 - r5)) (W.ret (32 - r5)))
/-- isocline/num.quoWords -/
def num_quoWords.j5 (p143 : (List Int)) (p166 : (List Int)) : W ((List Int) × (List Int)) :=
  W.ret (p143, p166)
def num_quoWords.l1 (p103 : (List Int)) (p141 : (List Int)) (r61 : Int) (p191 : (List Int)) (p192 : Int) : W (Ctl ((List Int) × Int) ((List Int) × (List Int))) :=
  if p192 < (p103.length : Int) then (W.req ((0 : Int) ≤ p192 ∧ p192 < (p141.length : Int)) (W.req ((0 : Int) ≤ p192 ∧ p192 < (p191.length : Int)) (if (r61 % 18446744073709551616) > 0 then (W.req ((0 : Int) ≤ p192 ∧ p192 < ((p191.set p192.toNat (ishr .u32 (gi p141 p192) (r61 % 18446744073709551616))).length : Int)) (W.req ((0 : Int) ≤ (p192 + 1) ∧ (p192 + 1) < (p141.length : Int)) (W.req ((0 : Int) ≤ p192 ∧ p192 < ((p191.set p192.toNat (ishr .u32 (gi p141 p192) (r61 % 18446744073709551616))).length : Int)) (W.ret (.go (((p191.set p192.toNat (ishr .u32 (gi p141 p192) (r61 % 18446744073709551616))).set p192.toNat (ior .u32 (gi (p191.set p192.toNat (ishr .u32 (gi p141 p192) (r61 % 18446744073709551616))) p192) (ishl .u32 (gi p141 (p192 + 1)) ((32 - (r61 % 18446744073709551616)) % 18446744073709551616)))), (p192 + 1))))))) else (W.ret (.go ((p191.set p192.toNat (ishr .u32 (gi p141 p192) (r61 % 18446744073709551616))), (p192 + 1))))))) else (W.ret (.brk (p191, p192)))
def num_quoWords.j4 (p103 : (List Int)) (r61 : Int) (p141 : (List Int)) (p143 : (List Int)) : W ((List Int) × (List Int)) :=
  W.req ((0 : Int) ≤ (p103.length : Int) ∧ (p103.length : Int) ≤ (70368744177664 : Int)) (W.bind (W.loop (fun (s : (List Int) × Int) => num_quoWords.l1 p103 p141 r61 s.1 s.2) ((List.replicate (p103.length : Int).toNat (0 : Int)), 0)) (Lp.on (fun s => num_quoWords.j5 p143 s.1) (fun r => W.ret r)))
def num_quoWords.j6 (p315 : Int) (p327 : (List Int)) (p330 : (List Int)) : W (Ctl ((List Int) × (List Int) × Int) ((List Int) × (List Int))) :=
  W.ret (.go (p327, p330, (p315 - 1)))
def num_quoWords.j9 (p315 : Int) (p314 : (List Int)) (p491 : (List Int)) (p494 : Int) : W (Ctl ((List Int) × (List Int) × Int) ((List Int) × (List Int))) :=
  W.req ((0 : Int) ≤ p315 ∧ p315 < (p314.length : Int)) (num_quoWords.j6 p315 p491 (p314.set p315.toNat (p494 % 4294967296)))
def num_quoWords.j10 (p315 : Int) (p103 : (List Int)) (p314 : (List Int)) (p424 : Int) (p535 : (List Int)) (p538 : Int) : W (Ctl ((List Int) × (List Int) × Int) ((List Int) × (List Int))) :=
  W.req (I64 (p315 + (p103.length : Int))) (W.req ((0 : Int) ≤ (p315 + (p103.length : Int)) ∧ (p315 + (p103.length : Int)) < (p535.length : Int)) (W.req ((0 : Int) ≤ (p315 + (p103.length : Int)) ∧ (p315 + (p103.length : Int)) < (p535.length : Int)) (num_quoWords.j9 p315 p314 (p535.set (p315 + (p103.length : Int)).toNat (((gi p535 (p315 + (p103.length : Int))) + (p538 % 4294967296)) % 4294967296)) ((p424 - 1) % 18446744073709551616))))
def num_quoWords.l3 (p103 : (List Int)) (p315 : Int) (p583 : (List Int)) (p586 : Int) (p588 : Int) : W (Ctl ((List Int) × Int × Int) ((List Int) × (List Int))) :=
  if p588 < (p103.length : Int) then (W.req (I64 (p588 + p315)) (W.req ((0 : Int) ≤ (p588 + p315) ∧ (p588 + p315) < (p583.length : Int)) (W.req ((0 : Int) ≤ p588 ∧ p588 < (p103.length : Int)) (W.req (I64 (p588 + p315)) (W.req ((0 : Int) ≤ (p588 + p315) ∧ (p588 + p315) < (p583.length : Int)) (W.ret (.go ((p583.set (p588 + p315).toNat (((((gi p583 (p588 + p315)) + (gi p103 p588)) + p586) % 18446744073709551616) % 4294967296)), (ishr .u64 ((((gi p583 (p588 + p315)) + (gi p103 p588)) + p586) % 18446744073709551616) 32), (p588 + 1))))))))) else (W.ret (.brk (p583, p586, p588)))
def num_quoWords.j8 (p315 : Int) (p103 : (List Int)) (p314 : (List Int)) (p424 : Int) (p433 : (List Int)) (p436 : Int) (p438 : Int) : W (Ctl ((List Int) × (List Int) × Int) ((List Int) × (List Int))) :=
  W.req (I64 (p315 + (p103.length : Int))) (W.req ((0 : Int) ≤ (p315 + (p103.length : Int)) ∧ (p315 + (p103.length : Int)) < (p433.length : Int)) (W.req (I64 ((gi p433 (p315 + (p103.length : Int))) - p436)) (W.req (I64 (((gi p433 (p315 + (p103.length : Int))) - p436) - (IntKind.i64.wrap p438))) (W.req (I64 (p315 + (p103.length : Int))) (W.req ((0 : Int) ≤ (p315 + (p103.length : Int)) ∧ (p315 + (p103.length : Int)) < (p433.length : Int)) (if (((gi p433 (p315 + (p103.length : Int))) - p436) - (IntKind.i64.wrap p438)) < 0 then (W.bind (W.loop (fun (s : (List Int) × Int × Int) => num_quoWords.l3 p103 p315 s.1 s.2.1 s.2.2) ((p433.set (p315 + (p103.length : Int)).toNat ((((gi p433 (p315 + (p103.length : Int))) - p436) - (IntKind.i64.wrap p438)) % 4294967296)), 0, 0)) (Lp.on (fun s => num_quoWords.j10 p315 p103 p314 p424 s.1 s.2.1) (fun r => W.ret (.out r)))) else (num_quoWords.j9 p315 p314 (p433.set (p315 + (p103.length : Int)).toNat ((((gi p433 (p315 + (p103.length : Int))) - p436) - (IntKind.i64.wrap p438)) % 4294967296)) p424)))))))
def num_quoWords.l4 (p103 : (List Int)) (p315 : Int) (p424 : Int) (p675 : (List Int)) (p678 : Int) (p680 : Int) (p682 : Int) : W (Ctl ((List Int) × Int × Int × Int) ((List Int) × (List Int))) :=
  if p682 < (p103.length : Int) then (W.req ((0 : Int) ≤ p682 ∧ p682 < (p103.length : Int)) (W.req (I64 (p682 + p315)) (W.req ((0 : Int) ≤ (p682 + p315) ∧ (p682 + p315) < (p675.length : Int)) (W.req (I64 ((gi p675 (p682 + p315)) - p678)) (W.req (I64 (((gi p675 (p682 + p315)) - p678) - (((((p424 * (gi p103 p682)) % 18446744073709551616) + p680) % 18446744073709551616) % 4294967296))) (W.req (I64 (p682 + p315)) (W.req ((0 : Int) ≤ (p682 + p315) ∧ (p682 + p315) < (p675.length : Int)) (if (((gi p675 (p682 + p315)) - p678) - (((((p424 * (gi p103 p682)) % 18446744073709551616) + p680) % 18446744073709551616) % 4294967296)) < 0 then (W.ret (.go ((p675.set (p682 + p315).toNat ((((gi p675 (p682 + p315)) - p678) - (((((p424 * (gi p103 p682)) % 18446744073709551616) + p680) % 18446744073709551616) % 4294967296)) % 4294967296)), 1, (ishr .u64 ((((p424 * (gi p103 p682)) % 18446744073709551616) + p680) % 18446744073709551616) 32), (p682 + 1)))) else (W.ret (.go ((p675.set (p682 + p315).toNat ((((gi p675 (p682 + p315)) - p678) - (((((p424 * (gi p103 p682)) % 18446744073709551616) + p680) % 18446744073709551616) % 4294967296)) % 4294967296)), 0, (ishr .u64 ((((p424 * (gi p103 p682)) % 18446744073709551616) + p680) % 18446744073709551616) 32), (p682 + 1)))))))))))) else (W.ret (.brk (p675, p678, p680, p682)))
def num_quoWords.j7 (p103 : (List Int)) (p315 : Int) (p311 : (List Int)) (p314 : (List Int)) (p424 : Int) : W (Ctl ((List Int) × (List Int) × Int) ((List Int) × (List Int))) :=
  W.bind (W.loop (fun (s : (List Int) × Int × Int × Int) => num_quoWords.l4 p103 p315 p424 s.1 s.2.1 s.2.2.1 s.2.2.2) (p311, 0, 0, 0)) (Lp.on (fun s => num_quoWords.j8 p315 p103 p314 p424 s.1 s.2.1 s.2.2.1) (fun r => W.ret (.out r)))
def num_quoWords.j11 (p103 : (List Int)) (p780 : Int) (p778 : Int) : W (Ctl (Int × Int) ((List Int) × (List Int))) :=
  W.req ((0 : Int) ≤ ((p103.length : Int) - 1) ∧ ((p103.length : Int) - 1) < (p103.length : Int)) (if ((p780 + (gi p103 ((p103.length : Int) - 1))) % 18446744073709551616) ≥ 4294967296 then (W.ret (.brk (((p778 - 1) % 18446744073709551616), ((p780 + (gi p103 ((p103.length : Int) - 1))) % 18446744073709551616)))) else (W.ret (.go (((p778 - 1) % 18446744073709551616), ((p780 + (gi p103 ((p103.length : Int) - 1))) % 18446744073709551616)))))
def num_quoWords.l5 (p103 : (List Int)) (p315 : Int) (p311 : (List Int)) (p778 : Int) (p780 : Int) : W (Ctl (Int × Int) ((List Int) × (List Int))) :=
  if p778 ≥ 4294967296 then (num_quoWords.j11 p103 p780 p778) else (W.req ((0 : Int) ≤ ((p103.length : Int) - 2) ∧ ((p103.length : Int) - 2) < (p103.length : Int)) (W.req (I64 (p315 + (p103.length : Int))) (W.req (I64 ((p315 + (p103.length : Int)) - 2)) (W.req ((0 : Int) ≤ ((p315 + (p103.length : Int)) - 2) ∧ ((p315 + (p103.length : Int)) - 2) < (p311.length : Int)) (if ((p778 * (gi p103 ((p103.length : Int) - 2))) % 18446744073709551616) > (ior .u64 (ishl .u64 p780 32) (gi p311 ((p315 + (p103.length : Int)) - 2))) then (num_quoWords.j11 p103 p780 p778) else (W.ret (.brk (p778, p780))))))))
def num_quoWords.l2 (p103 : (List Int)) (p311 : (List Int)) (p314 : (List Int)) (p315 : Int) : W (Ctl ((List Int) × (List Int) × Int) ((List Int) × (List Int))) :=
  if p315 ≥ 0 then (W.req (I64 (p315 + (p103.length : Int))) (W.req ((0 : Int) ≤ (p315 + (p103.length : Int)) ∧ (p315 + (p103.length : Int)) < (p311.length : Int)) (W.req (I64 (p315 + (p103.length : Int))) (W.req (I64 ((p315 + (p103.length : Int)) - 1)) (W.req ((0 : Int) ≤ ((p315 + (p103.length : Int)) - 1) ∧ ((p315 + (p103.length : Int)) - 1) < (p311.length : Int)) (W.req ((0 : Int) ≤ ((p103.length : Int) - 1) ∧ ((p103.length : Int) - 1) < (p103.length : Int)) (W.req ((gi p103 ((p103.length : Int) - 1)) ≠ 0) (W.req ((0 : Int) ≤ ((p103.length : Int) - 1) ∧ ((p103.length : Int) - 1) < (p103.length : Int)) (W.req ((gi p103 ((p103.length : Int) - 1)) ≠ 0) (W.bind (W.loop (fun (s : Int × Int) => num_quoWords.l5 p103 p315 p311 s.1 s.2) (((ior .u64 (ishl .u64 (gi p311 (p315 + (p103.length : Int))) 32) (gi p311 ((p315 + (p103.length : Int)) - 1))).tdiv (gi p103 ((p103.length : Int) - 1))), ((ior .u64 (ishl .u64 (gi p311 (p315 + (p103.length : Int))) 32) (gi p311 ((p315 + (p103.length : Int)) - 1))).tmod (gi p103 ((p103.length : Int) - 1))))) (Lp.on (fun s => num_quoWords.j7 p103 p315 p311 p314 s.1) (fun r => W.ret (.out r))))))))))))) else (W.ret (.brk (p311, p314, p315)))
def num_quoWords.j3 (x0 : (List Int)) (p103 : (List Int)) (r61 : Int) (p109 : (List Int)) : W ((List Int) × (List Int)) :=
  W.req ((0 : Int) ≤ (((x0.length : Int) - (p103.length : Int)) + 1) ∧ (((x0.length : Int) - (p103.length : Int)) + 1) ≤ (70368744177664 : Int)) (W.bind (W.loop (fun (s : (List Int) × (List Int) × Int) => num_quoWords.l2 p103 s.1 s.2.1 s.2.2) (p109, (List.replicate (((x0.length : Int) - (p103.length : Int)) + 1).toNat (0 : Int)), ((x0.length : Int) - (p103.length : Int)))) (Lp.on (fun s => num_quoWords.j4 p103 r61 s.1 s.2.1) (fun r => W.ret r)))
def num_quoWords.j12 (p873 : Int) (r61 : Int) (x0 : (List Int)) (p889 : (List Int)) : W (Ctl ((List Int) × Int) ((List Int) × (List Int))) :=
  if p873 > 0 then (if (r61 % 18446744073709551616) > 0 then (W.req ((0 : Int) ≤ p873 ∧ p873 < (p889.length : Int)) (W.req ((0 : Int) ≤ (p873 - 1) ∧ (p873 - 1) < (x0.length : Int)) (W.req ((0 : Int) ≤ p873 ∧ p873 < (p889.length : Int)) (W.ret (.go ((p889.set p873.toNat (ior .u32 (gi p889 p873) (ishr .u32 (gi x0 (p873 - 1)) ((32 - (r61 % 18446744073709551616)) % 18446744073709551616)))), (p873 + 1))))))) else (W.ret (.go (p889, (p873 + 1))))) else (W.ret (.go (p889, (p873 + 1))))
def num_quoWords.l6 (x0 : (List Int)) (r61 : Int) (p871 : (List Int)) (p873 : Int) : W (Ctl ((List Int) × Int) ((List Int) × (List Int))) :=
  if p873 < ((List.replicate ((x0.length : Int) + 1).toNat (0 : Int)).length : Int) then (if p873 < (x0.length : Int) then (W.req ((0 : Int) ≤ p873 ∧ p873 < (x0.length : Int)) (W.req ((0 : Int) ≤ p873 ∧ p873 < (p871.length : Int)) (num_quoWords.j12 p873 r61 x0 (p871.set p873.toNat (ishl .u32 (gi x0 p873) (r61 % 18446744073709551616)))))) else (num_quoWords.j12 p873 r61 x0 p871)) else (W.ret (.brk (p871, p873)))
def num_quoWords.j2 (x0 : (List Int)) (r61 : Int) (p103 : (List Int)) : W ((List Int) × (List Int)) :=
  W.bind (W.loop (fun (s : (List Int) × Int) => num_quoWords.l6 x0 r61 s.1 s.2) ((List.replicate ((x0.length : Int) + 1).toNat (0 : Int)), 0)) (Lp.on (fun s => num_quoWords.j3 x0 p103 r61 s.1) (fun r => W.ret r))
def num_quoWords.l7 (x1 : (List Int)) (r61 : Int) (p1015 : (List Int)) (p1016 : Int) : W (Ctl ((List Int) × Int) ((List Int) × (List Int))) :=
  if p1016 < (x1.length : Int) then (W.req ((0 : Int) ≤ p1016 ∧ p1016 < (x1.length : Int)) (W.req ((0 : Int) ≤ p1016 ∧ p1016 < (p1015.length : Int)) (if p1016 > 0 then (if (r61 % 18446744073709551616) > 0 then (W.req ((0 : Int) ≤ p1016 ∧ p1016 < ((p1015.set p1016.toNat (ishl .u32 (gi x1 p1016) (r61 % 18446744073709551616))).length : Int)) (W.req ((0 : Int) ≤ (p1016 - 1) ∧ (p1016 - 1) < (x1.length : Int)) (W.req ((0 : Int) ≤ p1016 ∧ p1016 < ((p1015.set p1016.toNat (ishl .u32 (gi x1 p1016) (r61 % 18446744073709551616))).length : Int)) (W.ret (.go (((p1015.set p1016.toNat (ishl .u32 (gi x1 p1016) (r61 % 18446744073709551616))).set p1016.toNat (ior .u32 (gi (p1015.set p1016.toNat (ishl .u32 (gi x1 p1016) (r61 % 18446744073709551616))) p1016) (ishr .u32 (gi x1 (p1016 - 1)) ((32 - (r61 % 18446744073709551616)) % 18446744073709551616)))), (p1016 + 1))))))) else (W.ret (.go ((p1015.set p1016.toNat (ishl .u32 (gi x1 p1016) (r61 % 18446744073709551616))), (p1016 + 1))))) else (W.ret (.go ((p1015.set p1016.toNat (ishl .u32 (gi x1 p1016) (r61 % 18446744073709551616))), (p1016 + 1))))))) else (W.ret (.brk (p1015, p1016)))
def num_quoWords.j1 (x1 : (List Int)) (x0 : (List Int)) : W ((List Int) × (List Int)) :=
  W.req ((0 : Int) ≤ ((x1.length : Int) - 1) ∧ ((x1.length : Int) - 1) < (x1.length : Int)) (W.bind (bits_LeadingZeros32.f (gi x1 ((x1.length : Int) - 1))) (fun r61 => W.req ((0 : Int) ≤ ((x0.length : Int) + 1) ∧ ((x0.length : Int) + 1) ≤ (70368744177664 : Int)) (W.req ((0 : Int) ≤ (x1.length : Int) ∧ (x1.length : Int) ≤ (70368744177664 : Int)) (W.bind (W.loop (fun (s : (List Int) × Int) => num_quoWords.l7 x1 r61 s.1 s.2) ((List.replicate (x1.length : Int).toNat (0 : Int)), 0)) (Lp.on (fun s => num_quoWords.j2 x0 r61 s.1) (fun r => W.ret r))))))
def num_quoWords.j13 (p1150 : (List Int)) (p1151 : Int) : W ((List Int) × (List Int)) :=
  W.ret (p1150, [(p1151 % 4294967296)])
def num_quoWords.l8 (x0 : (List Int)) (x1 : (List Int)) (p1176 : (List Int)) (p1177 : Int) (p1179 : Int) : W (Ctl ((List Int) × Int × Int) ((List Int) × (List Int))) :=
  if p1179 ≥ 0 then (W.req ((0 : Int) ≤ p1179 ∧ p1179 < (x0.length : Int)) (W.req ((0 : Int) ≤ 0 ∧ 0 < (x1.length : Int)) (W.req ((gi x1 0) ≠ 0) (W.req ((0 : Int) ≤ p1179 ∧ p1179 < (p1176.length : Int)) (W.req ((0 : Int) ≤ 0 ∧ 0 < (x1.length : Int)) (W.req ((gi x1 0) ≠ 0) (W.ret (.go ((p1176.set p1179.toNat (((ior .u64 (ishl .u64 p1177 32) (gi x0 p1179)).tdiv (gi x1 0)) % 4294967296)), ((ior .u64 (ishl .u64 p1177 32) (gi x0 p1179)).tmod (gi x1 0)), (p1179 - 1)))))))))) else (W.ret (.brk (p1176, p1177, p1179)))
def num_quoWords.f (x0 : (List Int)) (x1 : (List Int)) : W ((List Int) × (List Int)) :=
  W.bind (num_cmpWords.f x0 x1) (fun r7 => if r7 < 0 then (W.req (x0.length ≤ 35184372088832) (W.ret ([], x0))) else (if (x1.length : Int) = 1 then (W.req ((0 : Int) ≤ (x0.length : Int) ∧ (x0.length : Int) ≤ (70368744177664 : Int)) (W.bind (W.loop (fun (s : (List Int) × Int × Int) => num_quoWords.l8 x0 x1 s.1 s.2.1 s.2.2) ((List.replicate (x0.length : Int).toNat (0 : Int)), 0, ((x0.length : Int) - 1))) (Lp.on (fun s => num_quoWords.j13 s.1 s.2.1) (fun r => W.ret r)))) else (num_quoWords.j1 x1 x0)))
/-- (isocline/num.Z).Quo -/
def num_Z_Quo.j1 (x0 : num_Z) (x1 : num_Z) (p55 : num_Z) (p61 : num_Z) : W (num_Z × num_Z) :=
  W.bind (num_Z_words.f x0) (fun r92 => W.bind (num_Z_words.f x1) (fun r112 => W.bind (num_quoWords.f r92.1 r112.1) (fun r128 => W.bind (num_made.f r128.1 (!(r92.2 == r112.2))) (fun r164 => W.bind (num_made.f r128.2 r92.2) (fun r184 => W.ret (r164, r184))))))
def num_Z_Quo.f (x0 : num_Z) (x1 : num_Z) : W (num_Z × num_Z) :=
  if x0.m = [] then (if x1.m = [] then (if x0.v ≠ (-9223372036854775808) then (W.req (x1.v ≠ 0) (W.req (I64 (x0.v.tdiv x1.v)) (W.req (x1.v ≠ 0) (W.ret ((⟨(x0.v.tdiv x1.v), [], false⟩ : num_Z), (⟨(x0.v.tmod x1.v), [], false⟩ : num_Z)))))) else (num_Z_Quo.j1 x0 x1 (⟨(0 : Int), [], false⟩ : num_Z) (⟨(0 : Int), [], false⟩ : num_Z))) else (num_Z_Quo.j1 x0 x1 (⟨(0 : Int), [], false⟩ : num_Z) (⟨(0 : Int), [], false⟩ : num_Z))) else (num_Z_Quo.j1 x0 x1 (⟨(0 : Int), [], false⟩ : num_Z) (⟨(0 : Int), [], false⟩ : num_Z))
/-- isocline/num.Gcd -/
def num_Gcd.j1 (p123 : num_Z) (p129 : num_Z) : W num_Z :=
  W.ret p123
def num_Gcd.j2 (p163 : num_Z) (p169 : num_Z) (p228 : num_Z) : W (Ctl (num_Z × num_Z × num_Z) num_Z) :=
  W.bind (num_Z_Quo.f p163 p169) (fun r245 => W.ret (.go (p169, r245.2, p228)))
def num_Gcd.j3 (p405 : Int) : W (Ctl (num_Z × num_Z × num_Z) num_Z) :=
  W.ret (.out (⟨p405, [], false⟩ : num_Z))
def num_Gcd.l2 (p420 : Int) (p422 : Int) : W (Ctl (Int × Int) num_Z) :=
  if p422 ≠ 0 then (W.req (p422 ≠ 0) (W.ret (.go (p422, (p420.tmod p422))))) else (W.ret (.brk (p420, p422)))
def num_Gcd.l1 (p163 : num_Z) (p169 : num_Z) (p175 : num_Z) : W (Ctl (num_Z × num_Z × num_Z) num_Z) :=
  W.bind (num_Z_Sign.f p169) (fun r212 => if r212 ≠ 0 then (if p163.m = [] then (if p169.m = [] then (W.bind (W.loop (fun (s : Int × Int) => num_Gcd.l2 s.1 s.2) (p163.v, p169.v)) (Lp.on (fun s => num_Gcd.j3 s.1) (fun r => W.ret (.out r)))) else (num_Gcd.j2 p163 p169 p175)) else (num_Gcd.j2 p163 p169 p175)) else (W.ret (.brk (p163, p169, p175))))
def num_Gcd.f (x0 : num_Z) (x1 : num_Z) : W num_Z :=
  W.bind (num_Z_Abs.f x0) (fun r64 => W.bind (num_Z_Abs.f x1) (fun r85 => W.bind (W.loop (fun (s : num_Z × num_Z × num_Z) => num_Gcd.l1 s.1 s.2.1 s.2.2) (r64, r85, (⟨(0 : Int), [], false⟩ : num_Z))) (Lp.on (fun s => num_Gcd.j1 s.1 s.2.2) (fun r => W.ret r))))
/-- isocline/num.Over -/
def num_Over.j2 (p89 : num_Z) (p95 : num_Z) : W num_Q :=
  W.ret (⟨p89, p95⟩ : num_Q)
def num_Over.j1 (p56 : num_Z) (p62 : num_Z) : W num_Q :=
  W.bind (num_Gcd.f p56 p62) (fun r130 => if r130.m = [] then (if r130.v ≠ 1 then (W.bind (num_Z_Quo.f p56 r130) (fun r182 => W.bind (num_Z_Quo.f p62 r130) (fun r229 => num_Over.j2 r182.1 r229.1))) else (num_Over.j2 p56 p62)) else (W.bind (num_Z_Quo.f p56 r130) (fun r283 => W.bind (num_Z_Quo.f p62 r130) (fun r330 => num_Over.j2 r283.1 r330.1))))
def num_Over.f (x0 : num_Z) (x1 : num_Z) : W num_Q :=
  W.bind (num_Z_Sign.f x1) (fun r381 => if r381 < 0 then (W.bind (num_Z_Neg.f x0) (fun r400 => W.bind (num_Z_Neg.f x1) (fun r421 => num_Over.j1 r400 r421))) else (num_Over.j1 x0 x1))
/-- (isocline/num.Q).Mul -/
def num_Q_Mul.j1 (x0 : num_Q) (x1 : num_Q) (p62 : num_Q) : W num_Q :=
  W.bind (num_Z_Mul.f x0.N x1.N) (fun r104 => W.bind (num_Z_Mul.f x0.D x1.D) (fun r123 => W.bind (num_Over.f r104 r123) (fun r141 => W.ret r141)))
def num_Q_Mul.f (x0 : num_Q) (x1 : num_Q) : W num_Q :=
  W.bind (num_Q_IsInt.f x0) (fun r181 => if r181 = true then (W.bind (num_Q_IsInt.f x1) (fun r190 => if r190 = true then (W.bind (num_Z_Mul.f x0.N x1.N) (fun r211 => W.ret (⟨r211, x0.D⟩ : num_Q))) else (num_Q_Mul.j1 x0 x1 (⟨(⟨(0 : Int), [], false⟩ : num_Z), (⟨(0 : Int), [], false⟩ : num_Z)⟩ : num_Q)))) else (num_Q_Mul.j1 x0 x1 (⟨(⟨(0 : Int), [], false⟩ : num_Z), (⟨(0 : Int), [], false⟩ : num_Z)⟩ : num_Q)))
/-- (isocline/num.Q).Add -/
def num_Q_Add.j1 (x0 : num_Q) (x1 : num_Q) (p62 : num_Q) : W num_Q :=
  W.bind (num_Z_Mul.f x0.N x1.D) (fun r104 => W.bind (num_Z_Mul.f x1.N x0.D) (fun r123 => W.bind (num_Z_Add.f r104 r123) (fun r141 => W.bind (num_Z_Mul.f x0.D x1.D) (fun r161 => W.bind (num_Over.f r141 r161) (fun r179 => W.ret r179)))))
def num_Q_Add.f (x0 : num_Q) (x1 : num_Q) : W num_Q :=
  W.bind (num_Q_IsInt.f x0) (fun r219 => if r219 = true then (W.bind (num_Q_IsInt.f x1) (fun r228 => if r228 = true then (W.bind (num_Z_Add.f x0.N x1.N) (fun r249 => W.ret (⟨r249, x0.D⟩ : num_Q))) else (num_Q_Add.j1 x0 x1 (⟨(⟨(0 : Int), [], false⟩ : num_Z), (⟨(0 : Int), [], false⟩ : num_Z)⟩ : num_Q)))) else (num_Q_Add.j1 x0 x1 (⟨(⟨(0 : Int), [], false⟩ : num_Z), (⟨(0 : Int), [], false⟩ : num_Z)⟩ : num_Q)))
/-- (*isocline/fit.sums).add -/
def fit_sums_add.j1 (x2 : num_Q) (x0 : fit_sums) (p51 : (List (List num_Q))) (p53 : (List num_Q)) : W fit_sums :=
  W.bind (num_Q_Mul.f x2 x2) (fun r65 => W.bind (num_Q_Add.f x0.q r65) (fun r98 => W.ret (⟨x0.n, p51, p53, r98⟩ : fit_sums)))
def fit_sums_add.j2 (p148 : Int) (p160 : (List (List num_Q))) (p162 : (List num_Q)) : W (Ctl ((List (List num_Q)) × (List num_Q) × Int) fit_sums) :=
  W.ret (.go (p160, p162, (p148 + 1)))
def fit_sums_add.j3 (p148 : Int) (p146 : (List num_Q)) (x1 : (List num_Q)) (x2 : num_Q) (p173 : (List (List num_Q))) : W (Ctl ((List (List num_Q)) × (List num_Q) × Int) fit_sums) :=
  W.req ((0 : Int) ≤ p148 ∧ p148 < (p146.length : Int)) (W.req ((0 : Int) ≤ p148 ∧ p148 < (x1.length : Int)) (W.bind (num_Q_Mul.f (gi x1 p148) x2) (fun r254 => W.bind (num_Q_Add.f (gi p146 p148) r254) (fun r286 => W.req ((0 : Int) ≤ p148 ∧ p148 < (p146.length : Int)) (fit_sums_add.j2 p148 p173 (p146.set p148.toNat r286))))))
def fit_sums_add.l2 (x0 : fit_sums) (p148 : Int) (x1 : (List num_Q)) (p369 : (List (List num_Q))) (p372 : Int) : W (Ctl ((List (List num_Q)) × Int) fit_sums) :=
  if p372 < x0.n then (W.req ((0 : Int) ≤ p148 ∧ p148 < (p369.length : Int)) (W.req ((0 : Int) ≤ p148 ∧ p148 < (p369.length : Int)) (W.req ((0 : Int) ≤ p372 ∧ p372 < ((gi p369 p148).length : Int)) (W.req ((0 : Int) ≤ p148 ∧ p148 < (x1.length : Int)) (W.req ((0 : Int) ≤ p372 ∧ p372 < (x1.length : Int)) (W.bind (num_Q_Mul.f (gi x1 p148) (gi x1 p372)) (fun r505 => W.bind (num_Q_Add.f (gi (gi p369 p148) p372) r505) (fun r537 => W.req ((0 : Int) ≤ p372 ∧ p372 < ((gi p369 p148).length : Int)) (W.ret (.go ((p369.set p148.toNat ((gi p369 p148).set p372.toNat r537)), (p372 + 1)))))))))))) else (W.ret (.brk (p369, p372)))
def fit_sums_add.l1 (x0 : fit_sums) (x1 : (List num_Q)) (x2 : num_Q) (p144 : (List (List num_Q))) (p146 : (List num_Q)) (p148 : Int) : W (Ctl ((List (List num_Q)) × (List num_Q) × Int) fit_sums) :=
  if p148 < x0.n then (W.bind (W.loop (fun (s : (List (List num_Q)) × Int) => fit_sums_add.l2 x0 p148 x1 s.1 s.2) (p144, 0)) (Lp.on (fun s => fit_sums_add.j3 p148 p146 x1 x2 s.1) (fun r => W.ret (.out r)))) else (W.ret (.brk (p144, p146, p148)))
def fit_sums_add.f (x0 : fit_sums) (x1 : (List num_Q)) (x2 : num_Q) : W fit_sums :=
  W.bind (W.loop (fun (s : (List (List num_Q)) × (List num_Q) × Int) => fit_sums_add.l1 x0 x1 x2 s.1 s.2.1 s.2.2) (x0.m, x0.v, 0)) (Lp.on (fun s => fit_sums_add.j1 x2 x0 s.1 s.2.1) (fun r => W.ret r))
/-- slices.Clone[[]isocline/num.Q,isocline/num.Q] -/
def slices_Clone_numQ.f (x0 : (List num_Q)) : W (List num_Q) :=
  W.bind (W.any (fun b : Bool => b = true → x0 = [])) (fun r7 => if r7 = true then (W.ret []) else (W.req (([] : List num_Q).length + x0.length ≤ 1759218604441) (W.ret (([] : List num_Q) ++ x0))))
/-- (isocline/num.Q).IsZero -/
def num_Q_IsZero.f (x0 : num_Q) : W Bool :=
  W.bind (num_Z_Sign.f x0.N) (fun r28 => W.ret (decide (r28 = 0)))
/-- (isocline/num.Q).Div -/
def num_Q_Div.f (x0 : num_Q) (x1 : num_Q) : W num_Q :=
  W.bind (num_Z_Mul.f x0.N x1.D) (fun r71 => W.bind (num_Z_Mul.f x0.D x1.N) (fun r90 => W.bind (num_Over.f r71 r90) (fun r108 => W.ret r108)))
/-- (isocline/num.Q).Neg -/
def num_Q_Neg.f (x0 : num_Q) : W num_Q :=
  W.bind (num_Z_Neg.f x0.N) (fun r45 => W.ret (⟨r45, x0.D⟩ : num_Q))
/-- (isocline/num.Q).Sub -/
def num_Q_Sub.f (x0 : num_Q) (x1 : num_Q) : W num_Q :=
  W.bind (num_Q_Neg.f x1) (fun r71 => W.bind (num_Q_Add.f x0 r71) (fun r102 => W.ret r102))
/-- isocline/fit.reduce -/
def fit_reduce.j1 (p12 : (List (List num_Q))) (p15 : (List Int)) : W ((List Int) × (List (List num_Q))) :=
  W.ret (p15, p12)
def fit_reduce.j2 (p34 : Int) (p48 : (List (List num_Q))) (p51 : (List Int)) (p53 : Int) : W (Ctl ((List (List num_Q)) × (List Int) × Int × Int) ((List Int) × (List (List num_Q)))) :=
  W.ret (.go (p48, p51, p53, (p34 + 1)))
def fit_reduce.j5 (p30 : (List Int)) (p32 : Int) (p34 : Int) (p206 : (List (List num_Q))) : W (Ctl ((List (List num_Q)) × (List Int) × Int × Int) ((List Int) × (List (List num_Q)))) :=
  W.req (p30.length + 1 ≤ 17592186044416) (W.req (I64 (p32 + 1)) (fit_reduce.j2 p34 p206 (p30 ++ [p34]) (p32 + 1)))
def fit_reduce.j6 (p258 : Int) (p270 : (List (List num_Q))) : W (Ctl ((List (List num_Q)) × Int) ((List Int) × (List (List num_Q)))) :=
  W.ret (.go (p270, (p258 + 1)))
def fit_reduce.l3 (p256 : (List (List num_Q))) (p258 : Int) (p32 : Int) (p34 : Int) (p370 : (List (List num_Q))) (p373 : Int) : W (Ctl ((List (List num_Q)) × Int) ((List Int) × (List (List num_Q)))) :=
  if p373 < ((gi p256 p258).length : Int) then (W.req ((0 : Int) ≤ p258 ∧ p258 < (p370.length : Int)) (W.req ((0 : Int) ≤ p258 ∧ p258 < (p370.length : Int)) (W.req ((0 : Int) ≤ p373 ∧ p373 < ((gi p370 p258).length : Int)) (W.req ((0 : Int) ≤ p32 ∧ p32 < (p370.length : Int)) (W.req ((0 : Int) ≤ p373 ∧ p373 < ((gi p370 p32).length : Int)) (W.bind (num_Q_Mul.f (gi (gi p256 p258) p34) (gi (gi p370 p32) p373)) (fun r480 => W.bind (num_Q_Sub.f (gi (gi p370 p258) p373) r480) (fun r512 => W.req ((0 : Int) ≤ p373 ∧ p373 < ((gi p370 p258).length : Int)) (W.ret (.go ((p370.set p258.toNat ((gi p370 p258).set p373.toNat r512)), (p373 + 1)))))))))))) else (W.ret (.brk (p370, p373)))
def fit_reduce.l2 (p199 : (List (List num_Q))) (p34 : Int) (p32 : Int) (p256 : (List (List num_Q))) (p258 : Int) : W (Ctl ((List (List num_Q)) × Int) ((List Int) × (List (List num_Q)))) :=
  if p258 < (p199.length : Int) then (W.req ((0 : Int) ≤ p258 ∧ p258 < (p256.length : Int)) (W.req ((0 : Int) ≤ p34 ∧ p34 < ((gi p256 p258).length : Int)) (if p258 ≠ p32 then (W.bind (num_Q_IsZero.f (gi (gi p256 p258) p34)) (fun r342 => if r342 = true then (fit_reduce.j6 p258 p256) else (W.req ((0 : Int) ≤ p258 ∧ p258 < (p256.length : Int)) (W.bind (W.loop (fun (s : (List (List num_Q)) × Int) => fit_reduce.l3 p256 p258 p32 p34 s.1 s.2) (p256, 0)) (Lp.on (fun s => fit_reduce.j6 p258 s.1) (fun r => W.ret (.out r))))))) else (fit_reduce.j6 p258 p256)))) else (W.ret (.brk (p256, p258)))
def fit_reduce.j4 (p34 : Int) (p32 : Int) (p30 : (List Int)) (p199 : (List (List num_Q))) : W (Ctl ((List (List num_Q)) × (List Int) × Int × Int) ((List Int) × (List (List num_Q)))) :=
  W.bind (W.loop (fun (s : (List (List num_Q)) × Int) => fit_reduce.l2 p199 p34 p32 s.1 s.2) (p199, 0)) (Lp.on (fun s => fit_reduce.j5 p30 p32 p34 s.1) (fun r => W.ret (.out r)))
def fit_reduce.l4 (p27 : (List (List num_Q))) (p32 : Int) (p68 : Int) (p34 : Int) (p617 : (List (List num_Q))) (p620 : Int) : W (Ctl ((List (List num_Q)) × Int) ((List Int) × (List (List num_Q)))) :=
  if p620 < ((gi ((p27.set p32.toNat (gi p27 p68)).set p68.toNat (gi p27 p32)) p32).length : Int) then (W.req ((0 : Int) ≤ p32 ∧ p32 < (p617.length : Int)) (W.req ((0 : Int) ≤ p32 ∧ p32 < (p617.length : Int)) (W.req ((0 : Int) ≤ p620 ∧ p620 < ((gi p617 p32).length : Int)) (W.bind (num_Q_Div.f (gi (gi p617 p32) p620) (gi (gi ((p27.set p32.toNat (gi p27 p68)).set p68.toNat (gi p27 p32)) p32) p34)) (fun r687 => W.req ((0 : Int) ≤ p620 ∧ p620 < ((gi p617 p32).length : Int)) (W.ret (.go ((p617.set p32.toNat ((gi p617 p32).set p620.toNat r687)), (p620 + 1))))))))) else (W.ret (.brk (p617, p620)))
def fit_reduce.j3 (p27 : (List (List num_Q))) (p34 : Int) (p30 : (List Int)) (p32 : Int) (p68 : Int) : W (Ctl ((List (List num_Q)) × (List Int) × Int × Int) ((List Int) × (List (List num_Q)))) :=
  if p68 = (p27.length : Int) then (fit_reduce.j2 p34 p27 p30 p32) else (W.req ((0 : Int) ≤ p68 ∧ p68 < (p27.length : Int)) (W.req ((0 : Int) ≤ p32 ∧ p32 < (p27.length : Int)) (W.req ((0 : Int) ≤ p32 ∧ p32 < (p27.length : Int)) (W.req ((0 : Int) ≤ p68 ∧ p68 < (p27.length : Int)) (W.req ((0 : Int) ≤ p32 ∧ p32 < (((p27.set p32.toNat (gi p27 p68)).set p68.toNat (gi p27 p32)).length : Int)) (W.req ((0 : Int) ≤ p34 ∧ p34 < ((gi ((p27.set p32.toNat (gi p27 p68)).set p68.toNat (gi p27 p32)) p32).length : Int)) (W.req ((0 : Int) ≤ p32 ∧ p32 < (((p27.set p32.toNat (gi p27 p68)).set p68.toNat (gi p27 p32)).length : Int)) (W.bind (W.loop (fun (s : (List (List num_Q)) × Int) => fit_reduce.l4 p27 p32 p68 p34 s.1 s.2) (((p27.set p32.toNat (gi p27 p68)).set p68.toNat (gi p27 p32)), 0)) (Lp.on (fun s => fit_reduce.j4 p34 p32 p30 s.1) (fun r => W.ret (.out r)))))))))))
def fit_reduce.l5 (p27 : (List (List num_Q))) (p34 : Int) (p774 : Int) : W (Ctl Int ((List Int) × (List (List num_Q)))) :=
  if p774 < (p27.length : Int) then (W.req ((0 : Int) ≤ p774 ∧ p774 < (p27.length : Int)) (W.req ((0 : Int) ≤ p34 ∧ p34 < ((gi p27 p774).length : Int)) (W.bind (num_Q_IsZero.f (gi (gi p27 p774) p34)) (fun r825 => if r825 = true then (W.ret (.go (p774 + 1))) else (W.ret (.brk p774)))))) else (W.ret (.brk p774))
def fit_reduce.l1 (x1 : Int) (p27 : (List (List num_Q))) (p30 : (List Int)) (p32 : Int) (p34 : Int) : W (Ctl ((List (List num_Q)) × (List Int) × Int × Int) ((List Int) × (List (List num_Q)))) :=
  if p34 < x1 then (W.bind (W.loop (fun (s : Int) => fit_reduce.l5 p27 p34 s) p32) (Lp.on (fun s => fit_reduce.j3 p27 p34 p30 p32 s) (fun r => W.ret (.out r)))) else (W.ret (.brk (p27, p30, p32, p34)))
def fit_reduce.f (x0 : (List (List num_Q))) (x1 : Int) : W ((List Int) × (List (List num_Q))) :=
  W.bind (W.loop (fun (s : (List (List num_Q)) × (List Int) × Int × Int) => fit_reduce.l1 x1 s.1 s.2.1 s.2.2.1 s.2.2.2) (x0, [], 0, 0)) (Lp.on (fun s => fit_reduce.j1 s.1 s.2.1) (fun r => W.ret r))
/-- isocline/fit.solve -/
def fit_solve.j2 (p75 : (List num_Q)) : W ((List num_Q) × Bool) :=
  W.ret (p75, true)
def fit_solve.l1 (x0 : (List (List num_Q))) (r31 : (List Int) × (List (List num_Q))) (p86 : (List num_Q)) (p87 : Int) : W (Ctl ((List num_Q) × Int) ((List num_Q) × Bool)) :=
  if p87 < (x0.length : Int) then (W.req ((0 : Int) ≤ p87 ∧ p87 < (r31.2.length : Int)) (W.req ((0 : Int) ≤ (x0.length : Int) ∧ (x0.length : Int) < ((gi r31.2 p87).length : Int)) (W.req ((0 : Int) ≤ p87 ∧ p87 < (p86.length : Int)) (W.ret (.go ((p86.set p87.toNat (gi (gi r31.2 p87) (x0.length : Int))), (p87 + 1))))))) else (W.ret (.brk (p86, p87)))
def fit_solve.j1 (x0 : (List (List num_Q))) (p24 : (List (List num_Q))) : W ((List num_Q) × Bool) :=
  W.bind (fit_reduce.f p24 (x0.length : Int)) (fun r31 => if (r31.1.length : Int) < (x0.length : Int) then (W.ret ([], false)) else (W.req ((0 : Int) ≤ (x0.length : Int) ∧ (x0.length : Int) ≤ (3518437208883 : Int)) (W.bind (W.loop (fun (s : (List num_Q) × Int) => fit_solve.l1 x0 r31 s.1 s.2) ((List.replicate (x0.length : Int).toNat (⟨(⟨(0 : Int), [], false⟩ : num_Z), (⟨(0 : Int), [], false⟩ : num_Z)⟩ : num_Q)), 0)) (Lp.on (fun s => fit_solve.j2 s.1) (fun r => W.ret r)))))
def fit_solve.l2 (x0 : (List (List num_Q))) (x1 : (List num_Q)) (p189 : (List (List num_Q))) (p191 : Int) : W (Ctl ((List (List num_Q)) × Int) ((List num_Q) × Bool)) :=
  if p191 < (x0.length : Int) then (W.req ((0 : Int) ≤ p191 ∧ p191 < (x0.length : Int)) (W.req ((0 : Int) ≤ p191 ∧ p191 < (x1.length : Int)) (W.bind (slices_Clone_numQ.f (gi x0 p191)) (fun r264 => W.req (r264.length + 1 ≤ 1759218604441) (W.req ((0 : Int) ≤ p191 ∧ p191 < (p189.length : Int)) (W.ret (.go ((p189.set p191.toNat (r264 ++ [(gi x1 p191)])), (p191 + 1))))))))) else (W.ret (.brk (p189, p191)))
def fit_solve.f (x0 : (List (List num_Q))) (x1 : (List num_Q)) : W ((List num_Q) × Bool) :=
  W.req ((0 : Int) ≤ (x0.length : Int) ∧ (x0.length : Int) ≤ (11728124029610 : Int)) (W.bind (W.loop (fun (s : (List (List num_Q)) × Int) => fit_solve.l2 x0 x1 s.1 s.2) ((List.replicate (x0.length : Int).toNat ([] : (List num_Q))), 0)) (Lp.on (fun s => fit_solve.j1 x0 s.1) (fun r => W.ret r)))
/-- (isocline/num.Z).Int -/
def num_Z_Int.f (x0 : num_Z) (x1 : Int) : W (Int × Bool) :=
  if x0.m = [] then (if x0.v > x1 then (W.ret (0, false)) else (W.req (I64 (-x1)) (if x0.v < (-x1) then (W.ret (0, false)) else (W.ret (x0.v, true))))) else (W.ret (0, false))
/-- (isocline/num.Q).Out -/
def num_Q_Out.f (x0 : num_Q) : W (api_Rat × Bool) :=
  W.bind (num_Z_Int.f x0.N 1000000000000) (fun r38 => W.bind (num_Z_Int.f x0.D 1000000000000) (fun r51 => if r38.2 = true then (if r51.2 = true then (W.ret ((⟨r38.1, r51.1⟩ : api_Rat), true)) else (W.ret ((⟨0, 0⟩ : api_Rat), false))) else (W.ret ((⟨0, 0⟩ : api_Rat), false))))
/-- isocline/fit.Line -/
def fit_Line.j1 (p190 : Int) (p193 : (List (List num_Q))) (p197 : (List num_Q)) (p199 : num_Q) : W (api_Rat × api_Rat × Int) :=
  W.bind (fit_solve.f p193 p197) (fun r265 => if r265.2 = true then (W.req ((0 : Int) ≤ 0 ∧ 0 < (r265.1.length : Int)) (W.bind (num_Q_Out.f (gi r265.1 0)) (fun r322 => W.req ((0 : Int) ≤ 1 ∧ 1 < (r265.1.length : Int)) (W.bind (num_Q_Out.f (gi r265.1 1)) (fun r400 => if r322.2 = true then (if r400.2 = true then (W.ret (r322.1, r400.1, 0)) else (W.ret ((⟨0, 0⟩ : api_Rat), (⟨0, 0⟩ : api_Rat), 3))) else (W.ret ((⟨0, 0⟩ : api_Rat), (⟨0, 0⟩ : api_Rat), 3))))))) else (W.ret ((⟨0, 0⟩ : api_Rat), (⟨0, 0⟩ : api_Rat), 4)))
def fit_Line.l1 (x0 : (List api_Rat)) (x1 : (List api_Rat)) (p576 : Int) (p579 : (List (List num_Q))) (p583 : (List num_Q)) (p585 : num_Q) (p594 : Int) : W (Ctl (Int × (List (List num_Q)) × (List num_Q) × num_Q × Int) (api_Rat × api_Rat × Int)) :=
  if p594 < (x0.length : Int) then (W.req ((0 : Int) ≤ p594 ∧ p594 < (x0.length : Int)) (W.req ((0 : Int) ≤ p594 ∧ p594 < (x1.length : Int)) (W.bind (num_Of.f (gi x0 p594)) (fun r677 => W.bind (num_Int.f 1) (fun r711 => W.bind (num_Of.f (gi x1 p594)) (fun r758 => W.bind (fit_sums_add.f (⟨p576, p579, p583, p585⟩ : fit_sums) [r677, r711] r758) (fun r824 => W.ret (.go (r824.n, r824.m, r824.v, r824.q, (p594 + 1)))))))))) else (W.ret (.brk (p576, p579, p583, p585, p594)))
def fit_Line.f (x0 : (List api_Rat)) (x1 : (List api_Rat)) : W (api_Rat × api_Rat × Int) :=
  W.bind (num_AllValid.f x0) (fun r27 => if r27 = true then (W.bind (num_AllValid.f x1) (fun r35 => if r35 = true then (if (x0.length : Int) > 64 then (W.ret ((⟨0, 0⟩ : api_Rat), (⟨0, 0⟩ : api_Rat), 3)) else (if (x1.length : Int) > 64 then (W.ret ((⟨0, 0⟩ : api_Rat), (⟨0, 0⟩ : api_Rat), 3)) else (if (x0.length : Int) ≠ (x1.length : Int) then (W.ret ((⟨0, 0⟩ : api_Rat), (⟨0, 0⟩ : api_Rat), 8)) else (W.bind (fit_none.f 2) (fun r111 => W.bind (W.loop (fun (s : Int × (List (List num_Q)) × (List num_Q) × num_Q × Int) => fit_Line.l1 x0 x1 s.1 s.2.1 s.2.2.1 s.2.2.2.1 s.2.2.2.2) (r111.n, r111.m, r111.v, r111.q, 0)) (Lp.on (fun s => fit_Line.j1 s.1 s.2.1 s.2.2.1 s.2.2.2.1) (fun r => W.ret r))))))) else (W.ret ((⟨0, 0⟩ : api_Rat), (⟨0, 0⟩ : api_Rat), 1)))) else (W.ret ((⟨0, 0⟩ : api_Rat), (⟨0, 0⟩ : api_Rat), 1)))
/-- isocline/isoclineref01.Is -/
def ref01_Is.j2 (p44 : Int) : W Bool :=
  W.ret (decide (p44 = 1))
def ref01_Is.l1 (p52 : Int) (p54 : Int) : W (Ctl (Int × Int) Bool) :=
  if p54 > 0 then (W.req (p54 ≠ 0) (W.ret (.go (p54, (p52.tmod p54))))) else (W.ret (.brk (p52, p54)))
def ref01_Is.j1 (x0 : api_Rat) (p38 : Int) : W Bool :=
  W.bind (W.loop (fun (s : Int × Int) => ref01_Is.l1 s.1 s.2) (p38, x0.D)) (Lp.on (fun s => ref01_Is.j2 s.1) (fun r => W.ret r))
def ref01_Is.f (x0 : api_Rat) : W Bool :=
  if x0.D < 1 then (W.ret false) else (if x0.D > 1000000000000 then (W.ret false) else (if x0.N < (-1000000000000) then (W.ret false) else (if x0.N > 1000000000000 then (W.ret false) else (if x0.N < 0 then (W.req (I64 (-x0.N)) (ref01_Is.j1 x0 (-x0.N))) else (ref01_Is.j1 x0 x0.N)))))
/-- isocline/isoclineref01.Are -/
def ref01_Are.j1 : W Bool :=
  W.ret true
def ref01_Are.l1 (x0 : (List api_Rat)) (p15 : Int) : W (Ctl Int Bool) :=
  if p15 < (x0.length : Int) then (W.req ((0 : Int) ≤ p15 ∧ p15 < (x0.length : Int)) (W.bind (ref01_Is.f (gi x0 p15)) (fun r42 => if r42 = true then (W.ret (.go (p15 + 1))) else (W.ret (.out false))))) else (W.ret (.brk p15))
def ref01_Are.f (x0 : (List api_Rat)) : W Bool :=
  W.bind (W.loop (fun (s : Int) => ref01_Are.l1 x0 s) 0) (Lp.on (fun s => ref01_Are.j1) (fun r => W.ret r))
/-- isocline/isoclineref01.trim -/
def ref01_trim.j1 (p7 : (List Int)) : W (List Int) :=
  W.ret p7
def ref01_trim.l1 (p19 : (List Int)) : W (Ctl (List Int) (List Int)) :=
  if (p19.length : Int) > 0 then (W.req ((0 : Int) ≤ ((p19.length : Int) - 1) ∧ ((p19.length : Int) - 1) < (p19.length : Int)) (if (gi p19 ((p19.length : Int) - 1)) = 0 then (W.req ((0 : Int) ≤ ((p19.length : Int) - 1) ∧ ((p19.length : Int) - 1) ≤ (p19.length : Int)) (W.ret (.go (p19.take ((p19.length : Int) - 1).toNat)))) else (W.ret (.brk p19)))) else (W.ret (.brk p19))
def ref01_trim.f (x0 : (List Int)) : W (List Int) :=
  W.bind (W.loop (fun (s : (List Int)) => ref01_trim.l1 s) x0) (Lp.on (fun s => ref01_trim.j1 s) (fun r => W.ret r))
/-- isocline/isoclineref01.trim -/
def ref01_trim_o.j1 (p8 : (List Int)) : W (List Int) :=
  W.ret p8
def ref01_trim_o.l1 (p17 : (List Int)) : W (Ctl (List Int) (List Int)) :=
  if (p17.length : Int) > 0 then (W.req ((0 : Int) ≤ ((p17.length : Int) - 1) ∧ ((p17.length : Int) - 1) < (p17.length : Int)) (if (gi p17 ((p17.length : Int) - 1)) = 0 then (W.req ((0 : Int) ≤ ((p17.length : Int) - 1) ∧ ((p17.length : Int) - 1) ≤ (p17.length : Int)) (W.ret (.go (p17.take ((p17.length : Int) - 1).toNat)))) else (W.ret (.brk p17)))) else (W.ret (.brk p17))
def ref01_trim_o.f (x0 : (List Int)) : W (List Int) :=
  W.bind (W.loop (fun (s : (List Int)) => ref01_trim_o.l1 s) x0) (Lp.on (fun s => ref01_trim_o.j1 s) (fun r => W.ret r))
/-- isocline/isoclineref01.ofInt -/
def ref01_ofInt.j1 (x0 : Int) (p20 : Int) : W ref01_whole :=
  W.bind (ref01_trim.f [(p20 % 4294967296), ((ishr .u64 p20 32) % 4294967296)]) (fun r38 => W.ret (⟨r38, (decide (x0 < 0))⟩ : ref01_whole))
def ref01_ofInt.f (x0 : Int) : W ref01_whole :=
  if x0 < 0 then (ref01_ofInt.j1 x0 ((0 - (x0 % 18446744073709551616)) % 18446744073709551616)) else (ref01_ofInt.j1 x0 (x0 % 18446744073709551616))
/-- (isocline/isoclineref01.whole).isNought -/
def ref01_whole_isNought.f (x0 : ref01_whole) : W Bool :=
  W.ret (decide ((x0.d.length : Int) = 0))
/-- isocline/isoclineref01.signed -/
def ref01_signed.f (x0 : (List Int)) (x1 : Bool) : W ref01_whole :=
  if x1 = true then (W.ret (⟨x0, (decide ((x0.length : Int) > 0))⟩ : ref01_whole)) else (W.ret (⟨x0, false⟩ : ref01_whole))
/-- (isocline/isoclineref01.whole).neg -/
def ref01_whole_neg.f (x0 : ref01_whole) : W ref01_whole :=
  W.bind (ref01_signed.f x0.d (!x0.minus)) (fun r27 => W.ret r27)
/-- isocline/isoclineref01.isOne -/
def ref01_isOne.f (x0 : ref01_whole) : W Bool :=
  if (x0.d.length : Int) = 1 then (W.req ((0 : Int) ≤ 0 ∧ 0 < (x0.d.length : Int)) (if (gi x0.d 0) = 1 then (W.ret (!x0.minus)) else (W.ret false))) else (W.ret false)
/-- isocline/isoclineref01.order -/
def ref01_order.j1 : W Int :=
  W.ret 0
def ref01_order.l1 (x0 : (List Int)) (x1 : (List Int)) (p35 : Int) : W (Ctl Int Int) :=
  if p35 ≥ 0 then (W.req ((0 : Int) ≤ p35 ∧ p35 < (x0.length : Int)) (W.req ((0 : Int) ≤ p35 ∧ p35 < (x1.length : Int)) (if (gi x0 p35) < (gi x1 p35) then (W.ret (.out (-1))) else (W.req ((0 : Int) ≤ p35 ∧ p35 < (x0.length : Int)) (W.req ((0 : Int) ≤ p35 ∧ p35 < (x1.length : Int)) (if (gi x0 p35) > (gi x1 p35) then (W.ret (.out 1)) else (W.ret (.go (p35 - 1))))))))) else (W.ret (.brk p35))
def ref01_order.f (x0 : (List Int)) (x1 : (List Int)) : W Int :=
  if (x0.length : Int) ≠ (x1.length : Int) then (if (x0.length : Int) < (x1.length : Int) then (W.ret (-1)) else (W.ret 1)) else (W.bind (W.loop (fun (s : Int) => ref01_order.l1 x0 x1 s) ((x0.length : Int) - 1)) (Lp.on (fun s => ref01_order.j1) (fun r => W.ret r)))
/-- isocline/isoclineref01.shifted -/
def ref01_shifted.j1 (p22 : (List Int)) : W (List Int) :=
  W.ret p22
def ref01_shifted.l1 (x0 : (List Int)) (x1 : Int) (p32 : (List Int)) (p33 : Int) : W (Ctl ((List Int) × Int) (List Int)) :=
  if p33 < (x0.length : Int) then (W.req ((0 : Int) ≤ p33 ∧ p33 < (x0.length : Int)) (W.req ((0 : Int) ≤ p33 ∧ p33 < (p32.length : Int)) (W.req ((0 : Int) ≤ p33 ∧ p33 < (p32.length : Int)) (W.req ((0 : Int) ≤ (p33 + 1) ∧ (p33 + 1) < ((p32.set p33.toNat (ior .u32 (gi p32 p33) ((ishl .u64 (gi x0 p33) x1) % 4294967296))).length : Int)) (W.ret (.go (((p32.set p33.toNat (ior .u32 (gi p32 p33) ((ishl .u64 (gi x0 p33) x1) % 4294967296))).set (p33 + 1).toNat ((ishr .u64 (ishl .u64 (gi x0 p33) x1) 32) % 4294967296)), (p33 + 1)))))))) else (W.ret (.brk (p32, p33)))
def ref01_shifted.f (x0 : (List Int)) (x1 : Int) : W (List Int) :=
  W.req ((0 : Int) ≤ ((x0.length : Int) + 1) ∧ ((x0.length : Int) + 1) ≤ (70368744177664 : Int)) (W.bind (W.loop (fun (s : (List Int) × Int) => ref01_shifted.l1 x0 x1 s.1 s.2) ((List.replicate ((x0.length : Int) + 1).toNat (0 : Int)), 0)) (Lp.on (fun s => ref01_shifted.j1 s.1) (fun r => W.ret r)))
/-- isocline/isoclineref01.word -/
def ref01_word.j3 (p55 : Int) (p82 : (List Int)) : W (Int × (List Int)) :=
  W.ret ((((p55 - 1) % 18446744073709551616) % 4294967296), p82)
def ref01_word.j4 (p97 : Int) (p109 : (List Int)) (p110 : Int) : W (Ctl ((List Int) × Int × Int) (Int × (List Int))) :=
  W.req (I64 (p97 + 1)) (W.ret (.go (p109, p110, (p97 + 1))))
def ref01_word.j5 (p97 : Int) (x0 : ((List Int) × Nat × Nat)) (p94 : (List Int)) (p137 : Int) : W (Ctl ((List Int) × Int × Int) (Int × (List Int))) :=
  W.req ((0 : Int) ≤ p97 ∧ p97 < (x0.2.2 : Int) ∧ ((x0.2.1 : Int) + p97) < (p94.length : Int)) (ref01_word.j4 p97 (p94.set ((x0.2.1 : Int) + p97).toNat (p137 % 4294967296)) (ishr .u64 p137 32))
def ref01_word.l1 (x1 : (List Int)) (x0 : ((List Int) × Nat × Nat)) (p94 : (List Int)) (p95 : Int) (p97 : Int) : W (Ctl ((List Int) × Int × Int) (Int × (List Int))) :=
  if p97 ≤ (x1.length : Int) then (W.req ((0 : Int) ≤ p97 ∧ p97 < (x0.2.2 : Int) ∧ ((x0.2.1 : Int) + p97) < (p94.length : Int)) (if p97 < (x1.length : Int) then (W.req ((0 : Int) ≤ p97 ∧ p97 < (x1.length : Int)) (ref01_word.j5 p97 x0 p94 ((((p95 + (gi p94 ((x0.2.1 : Int) + p97))) % 18446744073709551616) + (gi x1 p97)) % 18446744073709551616))) else (ref01_word.j5 p97 x0 p94 ((p95 + (gi p94 ((x0.2.1 : Int) + p97))) % 18446744073709551616)))) else (W.ret (.brk (p94, p95, p97)))
def ref01_word.j2 (p55 : Int) (x1 : (List Int)) (x0 : ((List Int) × Nat × Nat)) (p64 : (List Int)) (p65 : Int) : W (Int × (List Int)) :=
  if p65 = 0 then (W.ret ((p55 % 4294967296), p64)) else (W.bind (W.loop (fun (s : (List Int) × Int × Int) => ref01_word.l1 x1 x0 s.1 s.2.1 s.2.2) (p64, 0, 0)) (Lp.on (fun s => ref01_word.j3 p55 s.1) (fun r => W.ret r)))
def ref01_word.j6 (p191 : Int) (p203 : (List Int)) (p204 : Int) (p206 : Int) : W (Ctl ((List Int) × Int × Int × Int) (Int × (List Int))) :=
  W.req (I64 (p191 + 1)) (W.ret (.go (p203, p204, p206, (p191 + 1))))
def ref01_word.j7 (p191 : Int) (x0 : ((List Int) × Nat × Nat)) (p186 : (List Int)) (p187 : Int) (p216 : Int) : W (Ctl ((List Int) × Int × Int × Int) (Int × (List Int))) :=
  W.req ((0 : Int) ≤ p191 ∧ p191 < (x0.2.2 : Int) ∧ ((x0.2.1 : Int) + p191) < (p186.length : Int)) (W.req ((0 : Int) ≤ p191 ∧ p191 < (x0.2.2 : Int) ∧ ((x0.2.1 : Int) + p191) < (p186.length : Int)) (ref01_word.j6 p191 (p186.set ((x0.2.1 : Int) + p191).toNat ((((((gi p186 ((x0.2.1 : Int) + p191)) - (p216 % 4294967296)) % 18446744073709551616) - p187) % 18446744073709551616) % 4294967296)) (ishr .u64 (((((gi p186 ((x0.2.1 : Int) + p191)) - (p216 % 4294967296)) % 18446744073709551616) - p187) % 18446744073709551616) 63) (ishr .u64 p216 32)))
def ref01_word.l2 (x1 : (List Int)) (x0 : ((List Int) × Nat × Nat)) (p55 : Int) (p186 : (List Int)) (p187 : Int) (p189 : Int) (p191 : Int) : W (Ctl ((List Int) × Int × Int × Int) (Int × (List Int))) :=
  if p191 ≤ (x1.length : Int) then (if p191 < (x1.length : Int) then (W.req ((0 : Int) ≤ p191 ∧ p191 < (x1.length : Int)) (ref01_word.j7 p191 x0 p186 p187 ((p189 + ((p55 * (gi x1 p191)) % 18446744073709551616)) % 18446744073709551616))) else (ref01_word.j7 p191 x0 p186 p187 p189)) else (W.ret (.brk (p186, p187, p189, p191)))
def ref01_word.j1 (x1 : (List Int)) (x0 : ((List Int) × Nat × Nat)) (p55 : Int) : W (Int × (List Int)) :=
  W.bind (W.loop (fun (s : (List Int) × Int × Int × Int) => ref01_word.l2 x1 x0 p55 s.1 s.2.1 s.2.2.1 s.2.2.2) (x0.1, 0, 0, 0)) (Lp.on (fun s => ref01_word.j2 p55 x1 x0 s.1 s.2.1) (fun r => W.ret r))
def ref01_word.l3 (x1 : (List Int)) (x0 : ((List Int) × Nat × Nat)) (x3 : Int) (x2 : Int) (p291 : Int) (p293 : Int) : W (Ctl (Int × Int) (Int × (List Int))) :=
  if p293 < 4294967296 then (W.req ((0 : Int) ≤ ((x1.length : Int) - 2) ∧ ((x1.length : Int) - 2) < (x0.2.2 : Int) ∧ ((x0.2.1 : Int) + ((x1.length : Int) - 2)) < (x0.1.length : Int)) (if ((p291 * x3) % 18446744073709551616) > (ior .u64 (ishl .u64 p293 32) (gi x0.1 ((x0.2.1 : Int) + ((x1.length : Int) - 2)))) then (W.ret (.go (((p291 - 1) % 18446744073709551616), ((p293 + x2) % 18446744073709551616)))) else (W.ret (.brk (p291, p293))))) else (W.ret (.brk (p291, p293)))
def ref01_word.f (x0 : ((List Int) × Nat × Nat)) (x1 : (List Int)) (x2 : Int) (x3 : Int) : W (Int × (List Int)) :=
  W.req ((0 : Int) ≤ (x1.length : Int) ∧ (x1.length : Int) < (x0.2.2 : Int) ∧ ((x0.2.1 : Int) + (x1.length : Int)) < (x0.1.length : Int)) (W.req ((0 : Int) ≤ ((x1.length : Int) - 1) ∧ ((x1.length : Int) - 1) < (x0.2.2 : Int) ∧ ((x0.2.1 : Int) + ((x1.length : Int) - 1)) < (x0.1.length : Int)) (W.req (x2 ≠ 0) (W.bind (W.loop (fun (s : Int × Int) => ref01_word.l3 x1 x0 x3 x2 s.1 s.2) ((mn ((ior .u64 (ishl .u64 (gi x0.1 ((x0.2.1 : Int) + (x1.length : Int))) 32) (gi x0.1 ((x0.2.1 : Int) + ((x1.length : Int) - 1)))).tdiv x2) 4294967295), (((ior .u64 (ishl .u64 (gi x0.1 ((x0.2.1 : Int) + (x1.length : Int))) 32) (gi x0.1 ((x0.2.1 : Int) + ((x1.length : Int) - 1)))) - (((mn ((ior .u64 (ishl .u64 (gi x0.1 ((x0.2.1 : Int) + (x1.length : Int))) 32) (gi x0.1 ((x0.2.1 : Int) + ((x1.length : Int) - 1)))).tdiv x2) 4294967295) * x2) % 18446744073709551616)) % 18446744073709551616))) (Lp.on (fun s => ref01_word.j1 x1 x0 s.1) (fun r => W.ret r)))))
/-- isocline/isoclineref01.parts -/
def ref01_parts.j3 (p161 : (List Int)) (p184 : (List Int)) : W ((List Int) × (List Int)) :=
  W.bind (ref01_trim.f p161) (fun r200 => W.bind (ref01_trim.f p184) (fun r223 => W.ret (r200, r223)))
def ref01_parts.j4 (p243 : Int) (p260 : (List Int)) : W (Ctl ((List Int) × Int) ((List Int) × (List Int))) :=
  W.ret (.go (p260, (p243 + 1)))
def ref01_parts.l1 (r36 : Int) (p242 : (List Int)) (p243 : Int) : W (Ctl ((List Int) × Int) ((List Int) × (List Int))) :=
  if p243 < (p242.length : Int) then (W.req ((0 : Int) ≤ p243 ∧ p243 < (p242.length : Int)) (W.req ((0 : Int) ≤ p243 ∧ p243 < (p242.length : Int)) (if (p243 + 1) < ((p242.set p243.toNat (ishr .u32 (gi p242 p243) (r36 % 18446744073709551616))).length : Int) then (W.req ((0 : Int) ≤ p243 ∧ p243 < ((p242.set p243.toNat (ishr .u32 (gi p242 p243) (r36 % 18446744073709551616))).length : Int)) (W.req ((0 : Int) ≤ (p243 + 1) ∧ (p243 + 1) < ((p242.set p243.toNat (ishr .u32 (gi p242 p243) (r36 % 18446744073709551616))).length : Int)) (W.req ((0 : Int) ≤ p243 ∧ p243 < ((p242.set p243.toNat (ishr .u32 (gi p242 p243) (r36 % 18446744073709551616))).length : Int)) (ref01_parts.j4 p243 ((p242.set p243.toNat (ishr .u32 (gi p242 p243) (r36 % 18446744073709551616))).set p243.toNat (ior .u32 (gi (p242.set p243.toNat (ishr .u32 (gi p242 p243) (r36 % 18446744073709551616))) p243) ((ishl .u64 (gi (p242.set p243.toNat (ishr .u32 (gi p242 p243) (r36 % 18446744073709551616))) (p243 + 1)) ((32 - (r36 % 18446744073709551616)) % 18446744073709551616)) % 4294967296))))))) else (ref01_parts.j4 p243 (p242.set p243.toNat (ishr .u32 (gi p242 p243) (r36 % 18446744073709551616))))))) else (W.ret (.brk (p242, p243)))
def ref01_parts.j2 (r36 : Int) (p159 : (List Int)) (p161 : (List Int)) : W ((List Int) × (List Int)) :=
  W.bind (ref01_trim_o.f p159) (fun r165 => W.bind (W.loop (fun (s : (List Int) × Int) => ref01_parts.l1 r36 s.1 s.2) (r165, 0)) (Lp.on (fun s => ref01_parts.j3 p161 s.1) (fun r => W.ret r)))
def ref01_parts.l2 (r84 : (List Int)) (p372 : (List Int)) (p374 : (List Int)) (p375 : Int) : W (Ctl ((List Int) × (List Int) × Int) ((List Int) × (List Int))) :=
  if p375 ≥ 0 then (W.req (I64 (p375 + (r84.length : Int))) (W.req (I64 ((p375 + (r84.length : Int)) + 1)) (W.req ((0 : Int) ≤ p375 ∧ p375 < ((p375 + (r84.length : Int)) + 1) ∧ ((p375 + (r84.length : Int)) + 1) ≤ (p372.length : Int)) (W.bind (ref01_word.f (p372, p375.toNat, (((p375 + (r84.length : Int)) + 1) - p375).toNat) r84 (gi r84 ((r84.length : Int) - 1)) (gi r84 ((r84.length : Int) - 2))) (fun r399 => W.req ((0 : Int) ≤ p375 ∧ p375 < (p374.length : Int)) (W.ret (.go (r399.2, (p374.set p375.toNat r399.1), (p375 - 1))))))))) else (W.ret (.brk (p372, p374, p375)))
def ref01_parts.j1 (x1 : (List Int)) (x0 : (List Int)) : W ((List Int) × (List Int)) :=
  W.req ((0 : Int) ≤ ((x1.length : Int) - 1) ∧ ((x1.length : Int) - 1) < (x1.length : Int)) (W.bind (bits_LeadingZeros32.f (gi x1 ((x1.length : Int) - 1))) (fun r36 => W.bind (ref01_shifted.f x0 (r36 % 18446744073709551616)) (fun r47 => W.bind (ref01_shifted.f x1 (r36 % 18446744073709551616)) (fun r58 => W.bind (ref01_trim.f r58) (fun r84 => W.req ((0 : Int) ≤ ((r47.length : Int) - (r84.length : Int)) ∧ ((r47.length : Int) - (r84.length : Int)) ≤ (70368744177664 : Int)) (W.req ((0 : Int) ≤ ((r84.length : Int) - 1) ∧ ((r84.length : Int) - 1) < (r84.length : Int)) (W.req ((0 : Int) ≤ ((r84.length : Int) - 2) ∧ ((r84.length : Int) - 2) < (r84.length : Int)) (W.bind (W.loop (fun (s : (List Int) × (List Int) × Int) => ref01_parts.l2 r84 s.1 s.2.1 s.2.2) (r47, (List.replicate ((r47.length : Int) - (r84.length : Int)).toNat (0 : Int)), (((List.replicate ((r47.length : Int) - (r84.length : Int)).toNat (0 : Int)).length : Int) - 1))) (Lp.on (fun s => ref01_parts.j2 r36 s.1 s.2.1) (fun r => W.ret r))))))))))
def ref01_parts.j5 (p456 : (List Int)) (p457 : Int) : W ((List Int) × (List Int)) :=
  W.bind (ref01_trim.f p456) (fun r473 => W.bind (ref01_trim.f [(p457 % 4294967296)]) (fun r494 => W.ret (r473, r494)))
def ref01_parts.l3 (x0 : (List Int)) (x1 : (List Int)) (p514 : (List Int)) (p515 : Int) (p517 : Int) : W (Ctl ((List Int) × Int × Int) ((List Int) × (List Int))) :=
  if p517 ≥ 0 then (W.req ((0 : Int) ≤ p517 ∧ p517 < (x0.length : Int)) (W.req ((0 : Int) ≤ 0 ∧ 0 < (x1.length : Int)) (W.req ((gi x1 0) ≠ 0) (W.req ((0 : Int) ≤ p517 ∧ p517 < (p514.length : Int)) (W.req ((0 : Int) ≤ 0 ∧ 0 < (x1.length : Int)) (W.req ((gi x1 0) ≠ 0) (W.ret (.go ((p514.set p517.toNat (((ior .u64 (ishl .u64 p515 32) (gi x0 p517)).tdiv (gi x1 0)) % 4294967296)), ((ior .u64 (ishl .u64 p515 32) (gi x0 p517)).tmod (gi x1 0)), (p517 - 1)))))))))) else (W.ret (.brk (p514, p515, p517)))
def ref01_parts.f (x0 : (List Int)) (x1 : (List Int)) : W ((List Int) × (List Int)) :=
  W.bind (ref01_order.f x0 x1) (fun r7 => if r7 < 0 then (W.ret ([], x0)) else (if (x1.length : Int) = 1 then (W.req ((0 : Int) ≤ (x0.length : Int) ∧ (x0.length : Int) ≤ (70368744177664 : Int)) (W.bind (W.loop (fun (s : (List Int) × Int × Int) => ref01_parts.l3 x0 x1 s.1 s.2.1 s.2.2) ((List.replicate (x0.length : Int).toNat (0 : Int)), 0, ((x0.length : Int) - 1))) (Lp.on (fun s => ref01_parts.j5 s.1 s.2.1) (fun r => W.ret r)))) else (ref01_parts.j1 x1 x0)))
/-- isocline/isoclineref01.divisor -/
def ref01_divisor.j1 (p7 : (List Int)) : W (List Int) :=
  W.ret p7
def ref01_divisor.l1 (p19 : (List Int)) (p25 : (List Int)) : W (Ctl ((List Int) × (List Int)) (List Int)) :=
  if (p25.length : Int) > 0 then (W.bind (ref01_parts.f p19 p25) (fun r39 => W.ret (.go (p25, r39.2)))) else (W.ret (.brk (p19, p25)))
def ref01_divisor.f (x0 : (List Int)) (x1 : (List Int)) : W (List Int) :=
  W.bind (W.loop (fun (s : (List Int) × (List Int)) => ref01_divisor.l1 s.1 s.2) (x0, x1)) (Lp.on (fun s => ref01_divisor.j1 s.1) (fun r => W.ret r))
/-- isocline/isoclineref01.ratio -/
def ref01_ratio.j2 (p127 : ref01_whole) (p132 : ref01_whole) : W ref01_Q :=
  W.ret (⟨p127, p132⟩ : ref01_Q)
def ref01_ratio.j3 (p77 : ref01_whole) (r162 : (List Int)) (p82 : ref01_whole) (p182 : Bool) : W ref01_Q :=
  if p182 = true then (W.bind (ref01_parts.f p77.d r162) (fun r188 => W.bind (ref01_parts.f p82.d r162) (fun r212 => W.bind (ref01_signed.f r188.1 p77.minus) (fun r232 => W.bind (ref01_signed.f r212.1 false) (fun r249 => ref01_ratio.j2 r232 r249))))) else (ref01_ratio.j2 p77 p82)
def ref01_ratio.j1 (p77 : ref01_whole) (p82 : ref01_whole) : W ref01_Q :=
  W.bind (ref01_isOne.f p82) (fun r104 => if r104 = true then (W.ret (⟨p77, p82⟩ : ref01_Q)) else (W.bind (ref01_divisor.f p77.d p82.d) (fun r162 => if (r162.length : Int) ≠ 1 then (ref01_ratio.j3 p77 r162 p82 true) else (W.req ((0 : Int) ≤ 0 ∧ 0 < (r162.length : Int)) (if (gi r162 0) ≠ 1 then (ref01_ratio.j3 p77 r162 p82 true) else (ref01_ratio.j3 p77 r162 p82 false))))))
def ref01_ratio.f (x0 : ref01_whole) (x1 : ref01_whole) : W ref01_Q :=
  W.bind (ref01_whole_isNought.f x1) (fun r54 => if r54 = true then (W.ret (⟨(⟨[], false⟩ : ref01_whole), (⟨[], false⟩ : ref01_whole)⟩ : ref01_Q)) else (if x1.minus = true then (W.bind (ref01_whole_neg.f x0) (fun r320 => W.bind (ref01_whole_neg.f x1) (fun r338 => ref01_ratio.j1 r320 r338))) else (ref01_ratio.j1 x0 x1)))
/-- isocline/isoclineref01.Of -/
def ref01_Of.f (x0 : api_Rat) : W ref01_Q :=
  W.bind (ref01_ofInt.f x0.N) (fun r29 => W.bind (ref01_ofInt.f x0.D) (fun r44 => W.bind (ref01_ratio.f r29 r44) (fun r59 => W.ret r59)))
/-- isocline/isoclineref01.one -/
def ref01_one.f : W ref01_whole :=
  W.ret (⟨[1], false⟩ : ref01_whole)
/-- (isocline/isoclineref01.Q).den -/
def ref01_Q_den.f (x0 : ref01_Q) : W ref01_whole :=
  W.bind (ref01_whole_isNought.f x0.d) (fun r29 => if r29 = true then (W.bind ref01_one.f (fun r38 => W.ret r38)) else (W.ret x0.d))
/-- isocline/isoclineref01.plus -/
def ref01_plus.j1 (p27 : (List Int)) (p29 : Int) : W (List Int) :=
  W.req (p27.length + 1 ≤ 35184372088832) (W.bind (ref01_trim.f (p27 ++ [(p29 % 4294967296)])) (fun r67 => W.ret r67))
def ref01_plus.j3 (p88 : Int) (p100 : (List Int)) (p102 : Int) : W (Ctl ((List Int) × Int × Int) (List Int)) :=
  W.req (I64 (p88 + 1)) (W.ret (.go (p100, p102, (p88 + 1))))
def ref01_plus.j5 (p84 : (List Int)) (p88 : Int) (p120 : Int) : W (Ctl ((List Int) × Int × Int) (List Int)) :=
  W.req (p84.length + 1 ≤ 35184372088832) (ref01_plus.j3 p88 (p84 ++ [(p120 % 4294967296)]) (ishr .u64 p120 32))
def ref01_plus.j4 (p88 : Int) (x1 : (List Int)) (p84 : (List Int)) (p113 : Int) : W (Ctl ((List Int) × Int × Int) (List Int)) :=
  if p88 < (x1.length : Int) then (W.req ((0 : Int) ≤ p88 ∧ p88 < (x1.length : Int)) (ref01_plus.j5 p84 p88 ((p113 + (gi x1 p88)) % 18446744073709551616))) else (ref01_plus.j5 p84 p88 p113)
def ref01_plus.j2 (p88 : Int) (x0 : (List Int)) (x1 : (List Int)) (p84 : (List Int)) (p86 : Int) : W (Ctl ((List Int) × Int × Int) (List Int)) :=
  if p88 < (x0.length : Int) then (W.req ((0 : Int) ≤ p88 ∧ p88 < (x0.length : Int)) (ref01_plus.j4 p88 x1 p84 ((p86 + (gi x0 p88)) % 18446744073709551616))) else (ref01_plus.j4 p88 x1 p84 p86)
def ref01_plus.l1 (x0 : (List Int)) (x1 : (List Int)) (p84 : (List Int)) (p86 : Int) (p88 : Int) : W (Ctl ((List Int) × Int × Int) (List Int)) :=
  if p88 < (x0.length : Int) then (ref01_plus.j2 p88 x0 x1 p84 p86) else (if p88 < (x1.length : Int) then (ref01_plus.j2 p88 x0 x1 p84 p86) else (W.ret (.brk (p84, p86, p88))))
def ref01_plus.f (x0 : (List Int)) (x1 : (List Int)) : W (List Int) :=
  W.req ((0 : Int) ≤ ((mx (x0.length : Int) (x1.length : Int)) + 1) ∧ ((mx (x0.length : Int) (x1.length : Int)) + 1) ≤ (70368744177664 : Int)) (W.bind (W.loop (fun (s : (List Int) × Int × Int) => ref01_plus.l1 x0 x1 s.1 s.2.1 s.2.2) ([], 0, 0)) (Lp.on (fun s => ref01_plus.j1 s.1 s.2.1) (fun r => W.ret r)))
/-- isocline/isoclineref01.less -/
def ref01_less.j1 (p23 : (List Int)) : W (List Int) :=
  W.bind (ref01_trim.f p23) (fun r39 => W.ret r39)
def ref01_less.j2 (p60 : Int) (p73 : (List Int)) (p75 : Int) : W (Ctl ((List Int) × Int × Int) (List Int)) :=
  W.ret (.go (p73, p75, (p60 + 1)))
def ref01_less.j3 (p56 : (List Int)) (p60 : Int) (p100 : Int) : W (Ctl ((List Int) × Int × Int) (List Int)) :=
  W.req (p56.length + 1 ≤ 35184372088832) (ref01_less.j2 p60 (p56 ++ [(p100 % 4294967296)]) (ishr .u64 p100 63))
def ref01_less.l1 (x0 : (List Int)) (x1 : (List Int)) (p56 : (List Int)) (p58 : Int) (p60 : Int) : W (Ctl ((List Int) × Int × Int) (List Int)) :=
  if p60 < (x0.length : Int) then (W.req ((0 : Int) ≤ p60 ∧ p60 < (x0.length : Int)) (if p60 < (x1.length : Int) then (W.req ((0 : Int) ≤ p60 ∧ p60 < (x1.length : Int)) (ref01_less.j3 p56 p60 (((((gi x0 p60) - p58) % 18446744073709551616) - (gi x1 p60)) % 18446744073709551616))) else (ref01_less.j3 p56 p60 (((gi x0 p60) - p58) % 18446744073709551616)))) else (W.ret (.brk (p56, p58, p60)))
def ref01_less.f (x0 : (List Int)) (x1 : (List Int)) : W (List Int) :=
  W.req ((0 : Int) ≤ (x0.length : Int) ∧ (x0.length : Int) ≤ (70368744177664 : Int)) (W.bind (W.loop (fun (s : (List Int) × Int × Int) => ref01_less.l1 x0 x1 s.1 s.2.1 s.2.2) ([], 0, 0)) (Lp.on (fun s => ref01_less.j1 s.1) (fun r => W.ret r)))
/-- (isocline/isoclineref01.whole).add -/
def ref01_whole_add.f (x0 : ref01_whole) (x1 : ref01_whole) : W ref01_whole :=
  if (x0.minus == x1.minus) = true then (W.bind (ref01_plus.f x0.d x1.d) (fun r39 => W.bind (ref01_signed.f r39 x0.minus) (fun r50 => W.ret r50))) else (W.bind (ref01_order.f x0.d x1.d) (fun r74 => if r74 ≥ 0 then (W.bind (ref01_less.f x0.d x1.d) (fun r93 => W.bind (ref01_signed.f r93 x0.minus) (fun r104 => W.ret r104))) else (W.bind (ref01_less.f x1.d x0.d) (fun r135 => W.bind (ref01_signed.f r135 x1.minus) (fun r146 => W.ret r146)))))
/-- isocline/isoclineref01.times -/
def ref01_times.j1 (p23 : (List Int)) : W (List Int) :=
  W.bind (ref01_trim.f p23) (fun r38 => W.ret r38)
def ref01_times.j2 (p56 : Int) (p69 : (List Int)) : W (Ctl ((List Int) × Int) (List Int)) :=
  W.ret (.go (p69, (p56 + 1)))
def ref01_times.j3 (p56 : Int) (x1 : (List Int)) (p79 : (List Int)) (p80 : Int) : W (Ctl ((List Int) × Int) (List Int)) :=
  W.req (I64 (p56 + (x1.length : Int))) (W.req ((0 : Int) ≤ (p56 + (x1.length : Int)) ∧ (p56 + (x1.length : Int)) < (p79.length : Int)) (ref01_times.j2 p56 (p79.set (p56 + (x1.length : Int)).toNat (p80 % 4294967296))))
def ref01_times.l2 (x1 : (List Int)) (p56 : Int) (x0 : (List Int)) (p111 : (List Int)) (p112 : Int) (p114 : Int) : W (Ctl ((List Int) × Int × Int) (List Int)) :=
  if p114 < (x1.length : Int) then (W.req ((0 : Int) ≤ p56 ∧ p56 < (x0.length : Int)) (W.req ((0 : Int) ≤ p114 ∧ p114 < (x1.length : Int)) (W.req (I64 (p56 + p114)) (W.req ((0 : Int) ≤ (p56 + p114) ∧ (p56 + p114) < (p111.length : Int)) (W.req (I64 (p56 + p114)) (W.req ((0 : Int) ≤ (p56 + p114) ∧ (p56 + p114) < (p111.length : Int)) (W.ret (.go ((p111.set (p56 + p114).toNat (((p112 + (((((gi x0 p56) * (gi x1 p114)) % 18446744073709551616) + (gi p111 (p56 + p114))) % 18446744073709551616)) % 18446744073709551616) % 4294967296)), (ishr .u64 ((p112 + (((((gi x0 p56) * (gi x1 p114)) % 18446744073709551616) + (gi p111 (p56 + p114))) % 18446744073709551616)) % 18446744073709551616) 32), (p114 + 1)))))))))) else (W.ret (.brk (p111, p112, p114)))
def ref01_times.l1 (x0 : (List Int)) (x1 : (List Int)) (p55 : (List Int)) (p56 : Int) : W (Ctl ((List Int) × Int) (List Int)) :=
  if p56 < (x0.length : Int) then (W.bind (W.loop (fun (s : (List Int) × Int × Int) => ref01_times.l2 x1 p56 x0 s.1 s.2.1 s.2.2) (p55, 0, 0)) (Lp.on (fun s => ref01_times.j3 p56 x1 s.1 s.2.1) (fun r => W.ret (.out r)))) else (W.ret (.brk (p55, p56)))
def ref01_times.f (x0 : (List Int)) (x1 : (List Int)) : W (List Int) :=
  W.req ((0 : Int) ≤ ((x0.length : Int) + (x1.length : Int)) ∧ ((x0.length : Int) + (x1.length : Int)) ≤ (70368744177664 : Int)) (W.bind (W.loop (fun (s : (List Int) × Int) => ref01_times.l1 x0 x1 s.1 s.2) ((List.replicate ((x0.length : Int) + (x1.length : Int)).toNat (0 : Int)), 0)) (Lp.on (fun s => ref01_times.j1 s.1) (fun r => W.ret r)))
/-- (isocline/isoclineref01.whole).mul -/
def ref01_whole_mul.f (x0 : ref01_whole) (x1 : ref01_whole) : W ref01_whole :=
  W.bind (ref01_times.f x0.d x1.d) (fun r34 => W.bind (ref01_signed.f r34 (!(x0.minus == x1.minus))) (fun r45 => W.ret r45))
/-- (isocline/isoclineref01.Q).Add -/
def ref01_Q_Add.j1 (x0 : ref01_Q) (r79 : ref01_whole) (x1 : ref01_Q) (r56 : ref01_whole) (p147 : ref01_Q) : W ref01_Q :=
  W.bind (ref01_whole_mul.f x0.n r79) (fun r201 => W.bind (ref01_whole_mul.f x1.n r56) (fun r223 => W.bind (ref01_whole_add.f r201 r223) (fun r240 => W.bind (ref01_whole_mul.f r56 r79) (fun r262 => W.bind (ref01_ratio.f r240 r262) (fun r279 => W.ret r279)))))
def ref01_Q_Add.f (x0 : ref01_Q) (x1 : ref01_Q) : W ref01_Q :=
  W.bind (ref01_Q_den.f x0) (fun r56 => W.bind (ref01_Q_den.f x1) (fun r79 => W.bind (ref01_isOne.f r56) (fun r316 => if r316 = true then (W.bind (ref01_isOne.f r79) (fun r327 => if r327 = true then (W.bind (ref01_whole_add.f x0.n x1.n) (fun r367 => W.ret (⟨r367, r56⟩ : ref01_Q))) else (ref01_Q_Add.j1 x0 r79 x1 r56 (⟨(⟨[], false⟩ : ref01_whole), (⟨[], false⟩ : ref01_whole)⟩ : ref01_Q)))) else (ref01_Q_Add.j1 x0 r79 x1 r56 (⟨(⟨[], false⟩ : ref01_whole), (⟨[], false⟩ : ref01_whole)⟩ : ref01_Q)))))
/-- (isocline/isoclineref01.Q).Mul -/
def ref01_Q_Mul.j1 (x0 : ref01_Q) (x1 : ref01_Q) (r56 : ref01_whole) (r79 : ref01_whole) (p147 : ref01_Q) : W ref01_Q :=
  W.bind (ref01_whole_mul.f x0.n x1.n) (fun r198 => W.bind (ref01_whole_mul.f r56 r79) (fun r224 => W.bind (ref01_ratio.f r198 r224) (fun r241 => W.ret r241)))
def ref01_Q_Mul.f (x0 : ref01_Q) (x1 : ref01_Q) : W ref01_Q :=
  W.bind (ref01_Q_den.f x0) (fun r56 => W.bind (ref01_Q_den.f x1) (fun r79 => W.bind (ref01_isOne.f r56) (fun r278 => if r278 = true then (W.bind (ref01_isOne.f r79) (fun r289 => if r289 = true then (W.bind (ref01_whole_mul.f x0.n x1.n) (fun r329 => W.ret (⟨r329, r56⟩ : ref01_Q))) else (ref01_Q_Mul.j1 x0 x1 r56 r79 (⟨(⟨[], false⟩ : ref01_whole), (⟨[], false⟩ : ref01_whole)⟩ : ref01_Q)))) else (ref01_Q_Mul.j1 x0 x1 r56 r79 (⟨(⟨[], false⟩ : ref01_whole), (⟨[], false⟩ : ref01_whole)⟩ : ref01_Q)))))
/-- isocline/isoclineref01.Int -/
def ref01_Int.f (x0 : Int) : W ref01_Q :=
  W.bind (ref01_ofInt.f x0) (fun r14 => W.bind ref01_one.f (fun r29 => W.ret (⟨r14, r29⟩ : ref01_Q)))
/-- (isocline/isoclineref01.Q).Neg -/
def ref01_Q_Neg.f (x0 : ref01_Q) : W ref01_Q :=
  W.bind (ref01_whole_neg.f x0.n) (fun r41 => W.bind (ref01_Q_den.f x0) (fun r57 => W.ret (⟨r41, r57⟩ : ref01_Q)))
/-- (isocline/isoclineref01.Q).Sub -/
def ref01_Q_Sub.f (x0 : ref01_Q) (x1 : ref01_Q) : W ref01_Q :=
  W.bind (ref01_Q_Neg.f x1) (fun r56 => W.bind (ref01_Q_Add.f x0 r56) (fun r81 => W.ret r81))
/-- (isocline/isoclineref01.Q).IsZero -/
def ref01_Q_IsZero.f (x0 : ref01_Q) : W Bool :=
  W.bind (ref01_whole_isNought.f x0.n) (fun r11 => W.ret r11)
/-- (isocline/isoclineref01.Q).Div -/
def ref01_Q_Div.f (x0 : ref01_Q) (x1 : ref01_Q) : W ref01_Q :=
  W.bind (ref01_Q_den.f x1) (fun r49 => W.bind (ref01_whole_mul.f x0.n r49) (fun r64 => W.bind (ref01_Q_den.f x0) (fun r81 => W.bind (ref01_whole_mul.f r81 x1.n) (fun r96 => W.bind (ref01_ratio.f r64 r96) (fun r112 => W.ret r112)))))
/-- (isocline/isoclineref01.whole).small -/
def ref01_whole_small.j1 (x0 : ref01_whole) (p23 : Int) : W (Int × Bool) :=
  if x0.minus = true then (W.ret ((IntKind.i64.wrap ((0 - p23) % 18446744073709551616)), (decide (p23 ≤ 9223372036854775808)))) else (W.ret ((IntKind.i64.wrap p23), (decide (p23 < 9223372036854775808))))
def ref01_whole_small.l1 (x0 : ref01_whole) (p43 : Int) (p45 : Int) : W (Ctl (Int × Int) (Int × Bool)) :=
  if p45 < (x0.d.length : Int) then (W.req ((0 : Int) ≤ p45 ∧ p45 < (x0.d.length : Int)) (W.ret (.go ((ior .u64 p43 (ishl .u64 (gi x0.d p45) ((32 * (p45 % 18446744073709551616)) % 18446744073709551616))), (p45 + 1))))) else (W.ret (.brk (p43, p45)))
def ref01_whole_small.f (x0 : ref01_whole) : W (Int × Bool) :=
  if (x0.d.length : Int) > 2 then (W.ret (0, false)) else (W.bind (W.loop (fun (s : Int × Int) => ref01_whole_small.l1 x0 s.1 s.2) (0, 0)) (Lp.on (fun s => ref01_whole_small.j1 x0 s.1) (fun r => W.ret r)))
/-- isocline/isoclineref01.Rat -/
def ref01_Rat.f (x0 : ref01_Q) : W (api_Rat × Bool) :=
  W.bind (ref01_whole_small.f x0.n) (fun r26 => W.bind (ref01_Q_den.f x0) (fun r40 => W.bind (ref01_whole_small.f r40) (fun r55 => if r26.2 = true then (if r55.2 = true then (if r26.1 < (-1000000000000) then (W.ret ((⟨0, 0⟩ : api_Rat), false)) else (if r26.1 > 1000000000000 then (W.ret ((⟨0, 0⟩ : api_Rat), false)) else (if r55.1 > 1000000000000 then (W.ret ((⟨0, 0⟩ : api_Rat), false)) else (W.ret ((⟨r26.1, r55.1⟩ : api_Rat), true))))) else (W.ret ((⟨0, 0⟩ : api_Rat), false))) else (W.ret ((⟨0, 0⟩ : api_Rat), false)))))
/-- isocline/isoclineref01.Rats -/
def ref01_Rats.j1 (p10 : (List api_Rat)) : W ((List api_Rat) × Bool) :=
  W.ret (p10, true)
def ref01_Rats.l1 (x0 : (List ref01_Q)) (p21 : (List api_Rat)) (p23 : Int) : W (Ctl ((List api_Rat) × Int) ((List api_Rat) × Bool)) :=
  if p23 < (x0.length : Int) then (W.req ((0 : Int) ≤ p23 ∧ p23 < (x0.length : Int)) (W.bind (ref01_Rat.f (gi x0 p23)) (fun r63 => if r63.2 = true then (W.req (p21.length + 1 ≤ 8796093022208) (W.ret (.go ((p21 ++ [r63.1]), (p23 + 1))))) else (W.ret (.out ([], false)))))) else (W.ret (.brk (p21, p23)))
def ref01_Rats.f (x0 : (List ref01_Q)) : W ((List api_Rat) × Bool) :=
  W.bind (W.loop (fun (s : (List api_Rat) × Int) => ref01_Rats.l1 x0 s.1 s.2) ([], 0)) (Lp.on (fun s => ref01_Rats.j1 s.1) (fun r => W.ret r))
/-- isocline/isoclineref27.Line -/
def ref27_Line.j1 (x0 : (List api_Rat)) (p227 : ref01_Q) (p234 : ref01_Q) (p241 : ref01_Q) (p248 : ref01_Q) : W (api_Rat × api_Rat × Int) :=
  W.bind (ref01_Int.f (x0.length : Int)) (fun r310 => W.bind (ref01_Q_Mul.f r310 p241) (fun r403 => W.bind (ref01_Q_Mul.f p227 p227) (fun r447 => W.bind (ref01_Q_Sub.f r403 r447) (fun r491 => W.bind (ref01_Q_IsZero.f r491) (fun r564 => if r564 = true then (W.ret ((⟨0, 0⟩ : api_Rat), (⟨0, 0⟩ : api_Rat), 4)) else (W.bind (ref01_Q_Mul.f r310 p248) (fun r652 => W.bind (ref01_Q_Mul.f p227 p234) (fun r698 => W.bind (ref01_Q_Sub.f r652 r698) (fun r744 => W.bind (ref01_Q_Div.f r744 r491) (fun r797 => W.bind (ref01_Q_Mul.f r797 p227) (fun r894 => W.bind (ref01_Q_Sub.f p234 r894) (fun r927 => W.bind (ref01_Q_Div.f r927 r310) (fun r971 => W.bind (ref01_Rats.f [r797, r971]) (fun r1026 => if r1026.2 = true then (W.req ((0 : Int) ≤ 0 ∧ 0 < (r1026.1.length : Int)) (W.req ((0 : Int) ≤ 1 ∧ 1 < (r1026.1.length : Int)) (W.ret ((gi r1026.1 0), (gi r1026.1 1), 0)))) else (W.ret ((⟨0, 0⟩ : api_Rat), (⟨0, 0⟩ : api_Rat), 3))))))))))))))))
def ref27_Line.l1 (x0 : (List api_Rat)) (x1 : (List api_Rat)) (p1177 : ref01_Q) (p1184 : ref01_Q) (p1191 : ref01_Q) (p1198 : ref01_Q) (p1205 : Int) : W (Ctl (ref01_Q × ref01_Q × ref01_Q × ref01_Q × Int) (api_Rat × api_Rat × Int)) :=
  if p1205 < (x0.length : Int) then (W.req ((0 : Int) ≤ p1205 ∧ p1205 < (x0.length : Int)) (W.req ((0 : Int) ≤ p1205 ∧ p1205 < (x1.length : Int)) (W.bind (ref01_Of.f (gi x0 p1205)) (fun r1336 => W.bind (ref01_Of.f (gi x1 p1205)) (fun r1378 => W.bind (ref01_Q_Add.f p1177 r1336) (fun r1512 => W.bind (ref01_Q_Add.f p1184 r1378) (fun r1547 => W.bind (ref01_Q_Mul.f r1336 r1336) (fun r1619 => W.bind (ref01_Q_Add.f p1191 r1619) (fun r1655 => W.bind (ref01_Q_Mul.f r1336 r1378) (fun r1694 => W.bind (ref01_Q_Add.f p1198 r1694) (fun r1727 => W.ret (.go (r1512, r1547, r1655, r1727, (p1205 + 1)))))))))))))) else (W.ret (.brk (p1177, p1184, p1191, p1198, p1205)))
def ref27_Line.f (x0 : (List api_Rat)) (x1 : (List api_Rat)) : W (api_Rat × api_Rat × Int) :=
  W.bind (ref01_Are.f x0) (fun r27 => if r27 = true then (W.bind (ref01_Are.f x1) (fun r35 => if r35 = true then (if (x0.length : Int) > 64 then (W.ret ((⟨0, 0⟩ : api_Rat), (⟨0, 0⟩ : api_Rat), 3)) else (if (x1.length : Int) > 64 then (W.ret ((⟨0, 0⟩ : api_Rat), (⟨0, 0⟩ : api_Rat), 3)) else (if (x0.length : Int) ≠ (x1.length : Int) then (W.ret ((⟨0, 0⟩ : api_Rat), (⟨0, 0⟩ : api_Rat), 8)) else (W.bind (W.loop (fun (s : ref01_Q × ref01_Q × ref01_Q × ref01_Q × Int) => ref27_Line.l1 x0 x1 s.1 s.2.1 s.2.2.1 s.2.2.2.1 s.2.2.2.2) ((⟨(⟨[], false⟩ : ref01_whole), (⟨[], false⟩ : ref01_whole)⟩ : ref01_Q), (⟨(⟨[], false⟩ : ref01_whole), (⟨[], false⟩ : ref01_whole)⟩ : ref01_Q), (⟨(⟨[], false⟩ : ref01_whole), (⟨[], false⟩ : ref01_whole)⟩ : ref01_Q), (⟨(⟨[], false⟩ : ref01_whole), (⟨[], false⟩ : ref01_whole)⟩ : ref01_Q), 0)) (Lp.on (fun s => ref27_Line.j1 x0 s.1 s.2.1 s.2.2.1 s.2.2.2.1) (fun r => W.ret r)))))) else (W.ret ((⟨0, 0⟩ : api_Rat), (⟨0, 0⟩ : api_Rat), 1)))) else (W.ret ((⟨0, 0⟩ : api_Rat), (⟨0, 0⟩ : api_Rat), 1)))
/-- isocline/isoclinelaw27.known -/
def law27_known.f : W Bool :=
  W.req (3 ≤ ([(⟨0, 1⟩ : api_Rat), (⟨1, 1⟩ : api_Rat), (⟨2, 1⟩ : api_Rat), (⟨4, 1⟩ : api_Rat)].length : Int)) (W.req ((1 : Int) ≤ ([(⟨0, 1⟩ : api_Rat), (⟨1, 1⟩ : api_Rat), (⟨2, 1⟩ : api_Rat), (⟨4, 1⟩ : api_Rat)].length : Int)) (W.bind (fit_Line.f ([(⟨0, 1⟩ : api_Rat), (⟨1, 1⟩ : api_Rat), (⟨2, 1⟩ : api_Rat), (⟨4, 1⟩ : api_Rat)].take (3 : Int).toNat) ([(⟨0, 1⟩ : api_Rat), (⟨1, 1⟩ : api_Rat), (⟨2, 1⟩ : api_Rat), (⟨4, 1⟩ : api_Rat)].drop (1 : Int).toNat)) (fun r38 => if (decide (r38.1.N = 3) && (decide (r38.1.D = 2) && true)) = true then (if (decide (r38.2.1.N = 5) && (decide (r38.2.1.D = 6) && true)) = true then (W.ret (decide (r38.2.2 = 0))) else (W.ret false)) else (W.ret false))))
/-- isocline/isoclinelaw27.FitLine -/
def law27_FitLine.f (x0 : (List api_Rat)) (x1 : (List api_Rat)) : W Bool :=
  W.bind (fit_Line.f x0 x1) (fun r5 => W.bind (ref27_Line.f x0 x1) (fun r62 => if (decide (r5.1.N = r62.1.N) && (decide (r5.1.D = r62.1.D) && true)) = true then (if (decide (r5.2.1.N = r62.2.1.N) && (decide (r5.2.1.D = r62.2.1.D) && true)) = true then (if r5.2.2 = r62.2.2 then (W.bind law27_known.f (fun r136 => W.ret r136)) else (W.ret false)) else (W.ret false)) else (W.ret false)))
end Go.Proofs.Ytlmpoindlejefaa.E
