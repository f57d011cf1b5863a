/- What functions compute. -/
import Derived.Test.YtlmpoindlejefaaPTK
set_option linter.unusedVariables false
set_option linter.unusedSimpArgs false
set_option maxRecDepth 100000
namespace Go.Proofs.Ytlmpoindlejefaa.E
open Go Go.RowKit
def str_0 : ByteArray := ⟨#[0, 1, 2, 2, 3, 3, 3, 3, 4, 4, 4, 4, 4, 4, 4, 4, 5, 5, 5, 5, 5, 5, 5, 5, 5, 5, 5, 5, 5, 5, 5, 5, 6, 6, 6, 6, 6, 6, 6, 6, 6, 6, 6, 6, 6, 6, 6, 6, 6, 6, 6, 6, 6, 6, 6, 6, 6, 6, 6, 6, 6, 6, 6, 6, 7, 7, 7, 7, 7, 7, 7, 7, 7, 7, 7, 7, 7, 7, 7, 7, 7, 7, 7, 7, 7, 7, 7, 7, 7, 7, 7, 7, 7, 7, 7, 7, 7, 7, 7, 7, 7, 7, 7, 7, 7, 7, 7, 7, 7, 7, 7, 7, 7, 7, 7, 7, 7, 7, 7, 7, 7, 7, 7, 7, 7, 7, 7, 7, 8, 8, 8, 8, 8, 8, 8, 8, 8, 8, 8, 8, 8, 8, 8, 8, 8, 8, 8, 8, 8, 8, 8, 8, 8, 8, 8, 8, 8, 8, 8, 8, 8, 8, 8, 8, 8, 8, 8, 8, 8, 8, 8, 8, 8, 8, 8, 8, 8, 8, 8, 8, 8, 8, 8, 8, 8, 8, 8, 8, 8, 8, 8, 8, 8, 8, 8, 8, 8, 8, 8, 8, 8, 8, 8, 8, 8, 8, 8, 8, 8, 8, 8, 8, 8, 8, 8, 8, 8, 8, 8, 8, 8, 8, 8, 8, 8, 8, 8, 8, 8, 8, 8, 8, 8, 8, 8, 8, 8, 8, 8, 8, 8, 8, 8, 8, 8, 8, 8, 8, 8, 8, 8, 8, 8, 8, 8, 8]⟩
/-- isocline/num.Valid -/
def num_Valid.j1 (p38 : Int) : W Bool :=
  if p38 = 1 then (W.ret true) else (W.ret (decide (p38 = (-1))))
def num_Valid.l1 (p47 : Int) (p49 : Int) : W (Ctl (Int × Int) Bool) :=
  if p49 ≠ 0 then (W.req (p49 ≠ 0) (W.ret (.go (p49, (p47.tmod p49))))) else (W.ret (.brk (p47, p49)))
def num_Valid.f (x0 : api_Rat) : W Bool :=
  if x0.D < 1 then (W.ret false) else (if x0.D > 1000000000000 then (W.ret false) else (if x0.N > 1000000000000 then (W.ret false) else (if x0.N < (-1000000000000) then (W.ret false) else (W.bind (W.loop (fun (s : Int × Int) => num_Valid.l1 s.1 s.2) (x0.N, x0.D)) (Lp.on (fun s => num_Valid.j1 s.1) (fun r => W.ret r))))))
/-- isocline/num.AllValid -/
def num_AllValid.j1 : W Bool :=
  W.ret true
def num_AllValid.l1 (x0 : (List api_Rat)) (p16 : Int) : W (Ctl Int Bool) :=
  if p16 < (x0.length : Int) then (W.req ((0 : Int) ≤ p16 ∧ p16 < (x0.length : Int)) (W.bind (num_Valid.f (gi x0 p16)) (fun r60 => if r60 = true then (W.ret (.go (p16 + 1))) else (W.ret (.out false))))) else (W.ret (.brk p16))
def num_AllValid.f (x0 : (List api_Rat)) : W Bool :=
  W.bind (W.loop (fun (s : Int) => num_AllValid.l1 x0 s) 0) (Lp.on (fun s => num_AllValid.j1) (fun r => W.ret r))
/-- isocline/num.I -/
def num_I.f (x0 : Int) : W num_Z :=
  W.ret (⟨x0, [], false⟩ : num_Z)
/-- isocline/num.Int -/
def num_Int.f (x0 : Int) : W num_Q :=
  W.bind (num_I.f x0) (fun r14 => W.bind (num_I.f 1) (fun r32 => W.ret (⟨r14, r32⟩ : num_Q)))
/-- isocline/fit.zeros -/
def fit_zeros.j1 (p20 : (List num_Q)) : W (List num_Q) :=
  W.ret p20
def fit_zeros.l1 (x0 : Int) (p34 : (List num_Q)) (p35 : Int) : W (Ctl ((List num_Q) × Int) (List num_Q)) :=
  if p35 < ((List.replicate x0.toNat (⟨(⟨(0 : Int), [], false⟩ : num_Z), (⟨(0 : Int), [], false⟩ : num_Z)⟩ : num_Q)).length : Int) then (W.bind (num_Int.f 0) (fun r46 => W.req ((0 : Int) ≤ p35 ∧ p35 < (p34.length : Int)) (W.ret (.go ((p34.set p35.toNat r46), (p35 + 1)))))) else (W.ret (.brk (p34, p35)))
def fit_zeros.f (x0 : Int) : W (List num_Q) :=
  W.req ((0 : Int) ≤ x0 ∧ x0 ≤ (3518437208883 : Int)) (W.bind (W.loop (fun (s : (List num_Q) × Int) => fit_zeros.l1 x0 s.1 s.2) ((List.replicate x0.toNat (⟨(⟨(0 : Int), [], false⟩ : num_Z), (⟨(0 : Int), [], false⟩ : num_Z)⟩ : num_Q)), 0)) (Lp.on (fun s => fit_zeros.j1 s.1) (fun r => W.ret r)))
/-- isocline/fit.none -/
def fit_none.j1 (x0 : Int) (p67 : Int) (p70 : (List (List num_Q))) (p74 : (List num_Q)) (p76 : num_Q) : W fit_sums :=
  W.bind (fit_zeros.f x0) (fun r109 => W.ret (⟨p67, p70, r109, p76⟩ : fit_sums))
def fit_none.l1 (x0 : Int) (p155 : Int) (p158 : (List (List num_Q))) (p162 : (List num_Q)) (p164 : num_Q) (p173 : Int) : W (Ctl (Int × (List (List num_Q)) × (List num_Q) × num_Q × Int) fit_sums) :=
  if p173 < x0 then (W.bind (fit_zeros.f x0) (fun r215 => W.req (p158.length + 1 ≤ 5864062014805) (W.ret (.go (p155, (p158 ++ [r215]), p162, p164, (p173 + 1)))))) else (W.ret (.brk (p155, p158, p162, p164, p173)))
def fit_none.f (x0 : Int) : W fit_sums :=
  W.bind (num_Int.f 0) (fun r14 => W.bind (W.loop (fun (s : Int × (List (List num_Q)) × (List num_Q) × num_Q × Int) => fit_none.l1 x0 s.1 s.2.1 s.2.2.1 s.2.2.2.1 s.2.2.2.2) (x0, [], [], r14, 0)) (Lp.on (fun s => fit_none.j1 x0 s.1 s.2.1 s.2.2.1 s.2.2.2.1) (fun r => W.ret r)))
/-- isocline/num.Of -/
def num_Of.f (x0 : api_Rat) : W num_Q :=
  W.bind (num_I.f x0.N) (fun r29 => W.bind (num_I.f x0.D) (fun r47 => W.ret (⟨r29, r47⟩ : num_Q)))
/-- (isocline/num.Z).words -/
def num_Z_words.j1 (x0 : num_Z) (p29 : Int) : W ((List Int) × Bool) :=
  if p29 = 0 then (W.ret ([], false)) else (if (ishr .u64 p29 32) = 0 then (W.ret ([(p29 % 4294967296)], (decide (x0.v < 0)))) else (W.ret ([(p29 % 4294967296), ((ishr .u64 p29 32) % 4294967296)], (decide (x0.v < 0)))))
def num_Z_words.f (x0 : num_Z) : W ((List Int) × Bool) :=
  if x0.m = [] then (if x0.v < 0 then (num_Z_words.j1 x0 ((0 - (x0.v % 18446744073709551616)) % 18446744073709551616)) else (num_Z_words.j1 x0 (x0.v % 18446744073709551616))) else (W.ret (x0.m, x0.neg))
/-- isocline/num.made -/
def num_made.j2 (p16 : (List Int)) (x1 : Bool) (p27 : num_Z) : W num_Z :=
  W.req (p16 ≠ []) (W.ret (⟨0, p16, x1⟩ : num_Z))
def num_made.j3 (x1 : Bool) (p16 : (List Int)) (p61 : Int) : W num_Z :=
  if p61 < 9223372036854775808 then (if x1 = true then (W.req (I64 (-(IntKind.i64.wrap p61))) (W.ret (⟨(-(IntKind.i64.wrap p61)), [], false⟩ : num_Z))) else (W.ret (⟨(IntKind.i64.wrap p61), [], false⟩ : num_Z))) else (num_made.j2 p16 x1 (⟨(0 : Int), [], false⟩ : num_Z))
def num_made.l1 (p16 : (List Int)) (p100 : Int) (p102 : Int) : W (Ctl (Int × Int) num_Z) :=
  if p102 ≥ 0 then (W.req ((0 : Int) ≤ p102 ∧ p102 < (p16.length : Int)) (W.ret (.go ((ior .u64 (ishl .u64 p100 32) (gi p16 p102)), (p102 - 1))))) else (W.ret (.brk (p100, p102)))
def num_made.j1 (x1 : Bool) (p16 : (List Int)) : W num_Z :=
  if (p16.length : Int) ≤ 2 then (W.bind (W.loop (fun (s : Int × Int) => num_made.l1 p16 s.1 s.2) (0, ((p16.length : Int) - 1))) (Lp.on (fun s => num_made.j3 x1 p16 s.1) (fun r => W.ret r))) else (num_made.j2 p16 x1 (⟨(0 : Int), [], false⟩ : num_Z))
def num_made.l2 (p131 : (List Int)) : W (Ctl (List Int) num_Z) :=
  if (p131.length : Int) > 0 then (W.req ((0 : Int) ≤ ((p131.length : Int) - 1) ∧ ((p131.length : Int) - 1) < (p131.length : Int)) (if (gi p131 ((p131.length : Int) - 1)) = 0 then (W.req ((0 : Int) ≤ ((p131.length : Int) - 1) ∧ ((p131.length : Int) - 1) ≤ (p131.length : Int)) (W.ret (.go (p131.take ((p131.length : Int) - 1).toNat)))) else (W.ret (.brk p131)))) else (W.ret (.brk p131))
def num_made.f (x0 : (List Int)) (x1 : Bool) : W num_Z :=
  W.bind (W.loop (fun (s : (List Int)) => num_made.l2 s) x0) (Lp.on (fun s => num_made.j1 x1 s) (fun r => W.ret r))
/-- (isocline/num.Z).Neg -/
def num_Z_Neg.j1 (x0 : num_Z) (p30 : num_Z) : W num_Z :=
  W.bind (num_Z_words.f x0) (fun r49 => W.bind (num_made.f r49.1 (!r49.2)) (fun r64 => W.ret r64))
def num_Z_Neg.f (x0 : num_Z) : W num_Z :=
  if x0.m = [] then (if x0.v ≠ (-9223372036854775808) then (W.req (I64 (-x0.v)) (W.ret (⟨(-x0.v), [], false⟩ : num_Z))) else (num_Z_Neg.j1 x0 (⟨(0 : Int), [], false⟩ : num_Z))) else (num_Z_Neg.j1 x0 (⟨(0 : Int), [], false⟩ : num_Z))
/-- isocline/num.addWords -/
def num_addWords.j2 (p40 : (List Int)) (p42 : Int) : W (List Int) :=
  W.req (p40.length + 1 ≤ 35184372088832) (W.ret (p40 ++ [(p42 % 4294967296)]))
def num_addWords.j3 (p76 : (List Int)) (p80 : Int) (p112 : Int) : W (Ctl ((List Int) × Int × Int) (List Int)) :=
  W.req (p76.length + 1 ≤ 35184372088832) (W.ret (.go ((p76 ++ [(p112 % 4294967296)]), (ishr .u64 p112 32), (p80 + 1))))
def num_addWords.l1 (p7 : (List Int)) (p13 : (List Int)) (p76 : (List Int)) (p78 : Int) (p80 : Int) : W (Ctl ((List Int) × Int × Int) (List Int)) :=
  if p80 < (p7.length : Int) then (W.req ((0 : Int) ≤ p80 ∧ p80 < (p7.length : Int)) (if p80 < (p13.length : Int) then (W.req ((0 : Int) ≤ p80 ∧ p80 < (p13.length : Int)) (num_addWords.j3 p76 p80 (((((gi p7 p80) + p78) % 18446744073709551616) + (gi p13 p80)) % 18446744073709551616))) else (num_addWords.j3 p76 p80 (((gi p7 p80) + p78) % 18446744073709551616)))) else (W.ret (.brk (p76, p78, p80)))
def num_addWords.j1 (p7 : (List Int)) (p13 : (List Int)) : W (List Int) :=
  W.req ((0 : Int) ≤ ((p7.length : Int) + 1) ∧ ((p7.length : Int) + 1) ≤ (70368744177664 : Int)) (W.bind (W.loop (fun (s : (List Int) × Int × Int) => num_addWords.l1 p7 p13 s.1 s.2.1 s.2.2) ([], 0, 0)) (Lp.on (fun s => num_addWords.j2 s.1 s.2.1) (fun r => W.ret r)))
def num_addWords.f (x0 : (List Int)) (x1 : (List Int)) : W (List Int) :=
  if (x0.length : Int) < (x1.length : Int) then (num_addWords.j1 x1 x0) else (num_addWords.j1 x0 x1)
/-- isocline/num.cmpWords -/
def num_cmpWords.j1 : W Int :=
  W.ret 0
def num_cmpWords.l1 (x0 : (List Int)) (x1 : (List Int)) (p35 : Int) : W (Ctl Int Int) :=
  if p35 ≥ 0 then (W.req ((0 : Int) ≤ p35 ∧ p35 < (x0.length : Int)) (W.req ((0 : Int) ≤ p35 ∧ p35 < (x1.length : Int)) (if (gi x0 p35) ≠ (gi x1 p35) then (W.req ((0 : Int) ≤ p35 ∧ p35 < (x0.length : Int)) (W.req ((0 : Int) ≤ p35 ∧ p35 < (x1.length : Int)) (if (gi x0 p35) < (gi x1 p35) then (W.ret (.out (-1))) else (W.ret (.out 1))))) else (W.ret (.go (p35 - 1)))))) else (W.ret (.brk p35))
def num_cmpWords.f (x0 : (List Int)) (x1 : (List Int)) : W Int :=
  if (x0.length : Int) ≠ (x1.length : Int) then (if (x0.length : Int) < (x1.length : Int) then (W.ret (-1)) else (W.ret 1)) else (W.bind (W.loop (fun (s : Int) => num_cmpWords.l1 x0 x1 s) ((x0.length : Int) - 1)) (Lp.on (fun s => num_cmpWords.j1) (fun r => W.ret r)))
/-- isocline/num.subWords -/
def num_subWords.j1 (p23 : (List Int)) : W (List Int) :=
  W.ret p23
def num_subWords.j3 (p35 : (List Int)) (p39 : Int) (p81 : Int) (p83 : Int) : W (Ctl ((List Int) × Int × Int) (List Int)) :=
  W.req (p35.length + 1 ≤ 35184372088832) (W.ret (.go ((p35 ++ [(p83 % 4294967296)]), p81, (p39 + 1))))
def num_subWords.j2 (p35 : (List Int)) (p39 : Int) (p72 : Int) : W (Ctl ((List Int) × Int × Int) (List Int)) :=
  if p72 < 0 then (W.req (I64 (p72 + 4294967296)) (num_subWords.j3 p35 p39 1 (p72 + 4294967296))) else (num_subWords.j3 p35 p39 0 p72)
def num_subWords.l1 (x0 : (List Int)) (x1 : (List Int)) (p35 : (List Int)) (p37 : Int) (p39 : Int) : W (Ctl ((List Int) × Int × Int) (List Int)) :=
  if p39 < (x0.length : Int) then (W.req ((0 : Int) ≤ p39 ∧ p39 < (x0.length : Int)) (W.req (I64 ((gi x0 p39) - p37)) (if p39 < (x1.length : Int) then (W.req ((0 : Int) ≤ p39 ∧ p39 < (x1.length : Int)) (W.req (I64 (((gi x0 p39) - p37) - (gi x1 p39))) (num_subWords.j2 p35 p39 (((gi x0 p39) - p37) - (gi x1 p39))))) else (num_subWords.j2 p35 p39 ((gi x0 p39) - p37))))) else (W.ret (.brk (p35, p37, p39)))
def num_subWords.f (x0 : (List Int)) (x1 : (List Int)) : W (List Int) :=
  W.req ((0 : Int) ≤ (x0.length : Int) ∧ (x0.length : Int) ≤ (70368744177664 : Int)) (W.bind (W.loop (fun (s : (List Int) × Int × Int) => num_subWords.l1 x0 x1 s.1 s.2.1 s.2.2) ([], 0, 0)) (Lp.on (fun s => num_subWords.j1 s.1) (fun r => W.ret r)))
/-- (isocline/num.Z).Add -/
def num_Z_Add.j1 (x0 : num_Z) (x1 : num_Z) (p44 : num_Z) : W num_Z :=
  W.bind (num_Z_words.f x0) (fun r65 => W.bind (num_Z_words.f x1) (fun r83 => if (r65.2 == r83.2) = true then (W.bind (num_addWords.f r65.1 r83.1) (fun r103 => W.bind (num_made.f r103 r65.2) (fun r117 => W.ret r117))) else (W.bind (num_cmpWords.f r65.1 r83.1) (fun r144 => if r144 ≥ 0 then (W.bind (num_subWords.f r65.1 r83.1) (fun r155 => W.bind (num_made.f r155 r65.2) (fun r169 => W.ret r169))) else (W.bind (num_subWords.f r83.1 r65.1) (fun r195 => W.bind (num_made.f r195 r83.2) (fun r209 => W.ret r209)))))))
def num_Z_Add.f (x0 : num_Z) (x1 : num_Z) : W num_Z :=
  if x0.m = [] then (if x1.m = [] then (if ((decide ((IntKind.i64.wrap (x0.v + x1.v)) > x0.v)) == (decide (x1.v > 0))) = true then (W.ret (⟨(IntKind.i64.wrap (x0.v + x1.v)), [], false⟩ : num_Z)) else (num_Z_Add.j1 x0 x1 (⟨(0 : Int), [], false⟩ : num_Z))) else (num_Z_Add.j1 x0 x1 (⟨(0 : Int), [], false⟩ : num_Z))) else (num_Z_Add.j1 x0 x1 (⟨(0 : Int), [], false⟩ : num_Z))
/-- (isocline/num.Z).Sub -/
def num_Z_Sub.f (x0 : num_Z) (x1 : num_Z) : W num_Z :=
  W.bind (num_Z_Neg.f x1) (fun r53 => W.bind (num_Z_Add.f x0 r53) (fun r72 => W.ret r72))
/-- (isocline/num.Z).Sign -/
def num_Z_Sign.j1 (x0 : num_Z) (p23 : Bool) : W Int :=
  if p23 = true then (W.ret (-1)) else (if x0.m = [] then (if x0.v = 0 then (W.ret 0) else (W.ret 1)) else (W.ret 1))
def num_Z_Sign.f (x0 : num_Z) : W Int :=
  if x0.m = [] then (if x0.v < 0 then (num_Z_Sign.j1 x0 true) else (num_Z_Sign.j1 x0 false)) else (if x0.neg = true then (num_Z_Sign.j1 x0 true) else (num_Z_Sign.j1 x0 false))
/-- (isocline/num.Z).Cmp -/
def num_Z_Cmp.j1 (x0 : num_Z) (x1 : num_Z) : W Int :=
  W.bind (num_Z_Sub.f x0 x1) (fun r40 => W.bind (num_Z_Sign.f r40) (fun r57 => W.ret r57))
def num_Z_Cmp.f (x0 : num_Z) (x1 : num_Z) : W Int :=
  if x0.m = [] then (if x1.m = [] then (if x0.v < x1.v then (W.ret (-1)) else (if x0.v > x1.v then (W.ret 1) else (W.ret 0))) else (num_Z_Cmp.j1 x0 x1)) else (num_Z_Cmp.j1 x0 x1)
/-- (isocline/num.Q).IsInt -/
def num_Q_IsInt.f (x0 : num_Q) : W Bool :=
  W.bind (num_I.f 1) (fun r32 => W.bind (num_Z_Cmp.f x0.D r32) (fun r51 => W.ret (decide (r51 = 0))))
/-- math/bits.Mul64 -/
def bits_Mul64.f (x0 : Int) (x1 : Int) : W (Int × Int) :=
  W.ret ((((((((ishr .u64 x0 32) * (ishr .u64 x1 32)) % 18446744073709551616) + (ishr .u64 (((((ishr .u64 x0 32) * (iand .u64 x1 4294967295)) % 18446744073709551616) + (ishr .u64 (((iand .u64 x0 4294967295) * (iand .u64 x1 4294967295)) % 18446744073709551616) 32)) % 18446744073709551616) 32)) % 18446744073709551616) + (ishr .u64 (((iand .u64 (((((ishr .u64 x0 32) * (iand .u64 x1 4294967295)) % 18446744073709551616) + (ishr .u64 (((iand .u64 x0 4294967295) * (iand .u64 x1 4294967295)) % 18446744073709551616) 32)) % 18446744073709551616) 4294967295) + (((iand .u64 x0 4294967295) * (ishr .u64 x1 32)) % 18446744073709551616)) % 18446744073709551616) 32)) % 18446744073709551616), ((x0 * x1) % 18446744073709551616))
/-- (isocline/num.Z).Mul -/
def num_Z_Mul.j2 (r65 : (List Int) × Bool) (r83 : (List Int) × Bool) (p119 : (List Int)) : W num_Z :=
  W.bind (num_made.f p119 (!(r65.2 == r83.2))) (fun r135 => W.ret r135)
def num_Z_Mul.j3 (p168 : Int) (p181 : (List Int)) : W (Ctl ((List Int) × Int) num_Z) :=
  W.ret (.go (p181, (p168 + 1)))
def num_Z_Mul.j4 (p168 : Int) (r83 : (List Int) × Bool) (p194 : (List Int)) (p195 : Int) : W (Ctl ((List Int) × Int) num_Z) :=
  W.req (I64 (p168 + (r83.1.length : Int))) (W.req ((0 : Int) ≤ (p168 + (r83.1.length : Int)) ∧ (p168 + (r83.1.length : Int)) < (p194.length : Int)) (num_Z_Mul.j3 p168 (p194.set (p168 + (r83.1.length : Int)).toNat (p195 % 4294967296))))
def num_Z_Mul.l2 (r83 : (List Int) × Bool) (p168 : Int) (r65 : (List Int) × Bool) (p229 : (List Int)) (p230 : Int) (p232 : Int) : W (Ctl ((List Int) × Int × Int) num_Z) :=
  if p232 < (r83.1.length : Int) then (W.req (I64 (p168 + p232)) (W.req ((0 : Int) ≤ (p168 + p232) ∧ (p168 + p232) < (p229.length : Int)) (W.req ((0 : Int) ≤ p168 ∧ p168 < (r65.1.length : Int)) (W.req ((0 : Int) ≤ p232 ∧ p232 < (r83.1.length : Int)) (W.req (I64 (p168 + p232)) (W.req ((0 : Int) ≤ (p168 + p232) ∧ (p168 + p232) < (p229.length : Int)) (W.ret (.go ((p229.set (p168 + p232).toNat ((((((gi p229 (p168 + p232)) + (((gi r65.1 p168) * (gi r83.1 p232)) % 18446744073709551616)) % 18446744073709551616) + p230) % 18446744073709551616) % 4294967296)), (ishr .u64 (((((gi p229 (p168 + p232)) + (((gi r65.1 p168) * (gi r83.1 p232)) % 18446744073709551616)) % 18446744073709551616) + p230) % 18446744073709551616) 32), (p232 + 1)))))))))) else (W.ret (.brk (p229, p230, p232)))
def num_Z_Mul.l1 (r65 : (List Int) × Bool) (r83 : (List Int) × Bool) (p167 : (List Int)) (p168 : Int) : W (Ctl ((List Int) × Int) num_Z) :=
  if p168 < (r65.1.length : Int) then (W.bind (W.loop (fun (s : (List Int) × Int × Int) => num_Z_Mul.l2 r83 p168 r65 s.1 s.2.1 s.2.2) (p167, 0, 0)) (Lp.on (fun s => num_Z_Mul.j4 p168 r83 s.1 s.2.1) (fun r => W.ret (.out r)))) else (W.ret (.brk (p167, p168)))
def num_Z_Mul.j1 (x0 : num_Z) (x1 : num_Z) (p44 : num_Z) : W num_Z :=
  W.bind (num_Z_words.f x0) (fun r65 => W.bind (num_Z_words.f x1) (fun r83 => W.req ((0 : Int) ≤ ((r65.1.length : Int) + (r83.1.length : Int)) ∧ ((r65.1.length : Int) + (r83.1.length : Int)) ≤ (70368744177664 : Int)) (W.bind (W.loop (fun (s : (List Int) × Int) => num_Z_Mul.l1 r65 r83 s.1 s.2) ((List.replicate ((r65.1.length : Int) + (r83.1.length : Int)).toNat (0 : Int)), 0)) (Lp.on (fun s => num_Z_Mul.j2 r65 r83 s.1) (fun r => W.ret r)))))
def num_Z_Mul.j6 (p354 : Int) (x0 : num_Z) (x1 : num_Z) (p361 : Int) : W num_Z :=
  W.bind (bits_Mul64.f p354 p361) (fun r365 => if r365.1 = 0 then (if r365.2 < 9223372036854775808 then (if ((decide (x0.v < 0)) == (decide (x1.v < 0))) = true then (W.ret (⟨(IntKind.i64.wrap r365.2), [], false⟩ : num_Z)) else (W.req (I64 (-(IntKind.i64.wrap r365.2))) (W.ret (⟨(-(IntKind.i64.wrap r365.2)), [], false⟩ : num_Z)))) else (num_Z_Mul.j1 x0 x1 (⟨(0 : Int), [], false⟩ : num_Z))) else (num_Z_Mul.j1 x0 x1 (⟨(0 : Int), [], false⟩ : num_Z)))
def num_Z_Mul.j5 (x1 : num_Z) (x0 : num_Z) (p354 : Int) : W num_Z :=
  if x1.v < 0 then (num_Z_Mul.j6 p354 x0 x1 ((0 - (x1.v % 18446744073709551616)) % 18446744073709551616)) else (num_Z_Mul.j6 p354 x0 x1 (x1.v % 18446744073709551616))
def num_Z_Mul.f (x0 : num_Z) (x1 : num_Z) : W num_Z :=
  if x0.m = [] then (if x1.m = [] then (if x0.v < 0 then (num_Z_Mul.j5 x1 x0 ((0 - (x0.v % 18446744073709551616)) % 18446744073709551616)) else (num_Z_Mul.j5 x1 x0 (x0.v % 18446744073709551616))) else (num_Z_Mul.j1 x0 x1 (⟨(0 : Int), [], false⟩ : num_Z))) else (num_Z_Mul.j1 x0 x1 (⟨(0 : Int), [], false⟩ : num_Z))
/-- (isocline/num.Z).Abs -/
def num_Z_Abs.f (x0 : num_Z) : W num_Z :=
  W.bind (num_Z_Sign.f x0) (fun r31 => if r31 < 0 then (W.bind (num_Z_Neg.f x0) (fun r43 => W.ret r43)) else (W.ret x0))
/-- math/bits.Len32 -/
def bits_Len32.j2 (p15 : Int) (p17 : Int) : W Int :=
  W.req ((0 : Int) ≤ (p15 % 256) ∧ (p15 % 256) < (str_0.size : Int)) (W.req (I64 (p17 + (bix str_0 (p15 % 256)))) (W.ret (p17 + (bix str_0 (p15 % 256)))))
def bits_Len32.j1 (p7 : Int) (p9 : Int) : W Int :=
  if p7 ≥ 256 then (W.req (I64 (p9 + 8)) (bits_Len32.j2 (ishr .u32 p7 8) (p9 + 8))) else (bits_Len32.j2 p7 p9)
def bits_Len32.f (x0 : Int) : W Int :=
  if x0 ≥ 65536 then (bits_Len32.j1 (ishr .u32 x0 16) 16) else (bits_Len32.j1 x0 0)
/-- math/bits.LeadingZeros32 -/
def bits_LeadingZeros32.f (x0 : Int) : W Int :=
  W.bind (bits_Len32.f x0) (fun r5 => W.req (I64 (32 - r5)) (W.ret (32 - r5)))
/-- isocline/num.quoWords -/
def num_quoWords.j5 (p143 : (List Int)) (p166 : (List Int)) : W ((List Int) × (List Int)) :=
  W.ret (p143, p166)
def num_quoWords.l1 (p103 : (List Int)) (p141 : (List Int)) (r61 : Int) (p191 : (List Int)) (p192 : Int) : W (Ctl ((List Int) × Int) ((List Int) × (List Int))) :=
  if p192 < (p103.length : Int) then (W.req ((0 : Int) ≤ p192 ∧ p192 < (p141.length : Int)) (W.req ((0 : Int) ≤ p192 ∧ p192 < (p191.length : Int)) (if (r61 % 18446744073709551616) > 0 then (W.req ((0 : Int) ≤ p192 ∧ p192 < ((p191.set p192.toNat (ishr .u32 (gi p141 p192) (r61 % 18446744073709551616))).length : Int)) (W.req ((0 : Int) ≤ (p192 + 1) ∧ (p192 + 1) < (p141.length : Int)) (W.req ((0 : Int) ≤ p192 ∧ p192 < ((p191.set p192.toNat (ishr .u32 (gi p141 p192) (r61 % 18446744073709551616))).length : Int)) (W.ret (.go (((p191.set p192.toNat (ishr .u32 (gi p141 p192) (r61 % 18446744073709551616))).set p192.toNat (ior .u32 (gi (p191.set p192.toNat (ishr .u32 (gi p141 p192) (r61 % 18446744073709551616))) p192) (ishl .u32 (gi p141 (p192 + 1)) ((32 - (r61 % 18446744073709551616)) % 18446744073709551616)))), (p192 + 1))))))) else (W.ret (.go ((p191.set p192.toNat (ishr .u32 (gi p141 p192) (r61 % 18446744073709551616))), (p192 + 1))))))) else (W.ret (.brk (p191, p192)))
def num_quoWords.j4 (p103 : (List Int)) (r61 : Int) (p141 : (List Int)) (p143 : (List Int)) : W ((List Int) × (List Int)) :=
  W.req ((0 : Int) ≤ (p103.length : Int) ∧ (p103.length : Int) ≤ (70368744177664 : Int)) (W.bind (W.loop (fun (s : (List Int) × Int) => num_quoWords.l1 p103 p141 r61 s.1 s.2) ((List.replicate (p103.length : Int).toNat (0 : Int)), 0)) (Lp.on (fun s => num_quoWords.j5 p143 s.1) (fun r => W.ret r)))
def num_quoWords.j6 (p315 : Int) (p327 : (List Int)) (p330 : (List Int)) : W (Ctl ((List Int) × (List Int) × Int) ((List Int) × (List Int))) :=
  W.ret (.go (p327, p330, (p315 - 1)))
def num_quoWords.j9 (p315 : Int) (p314 : (List Int)) (p491 : (List Int)) (p494 : Int) : W (Ctl ((List Int) × (List Int) × Int) ((List Int) × (List Int))) :=
  W.req ((0 : Int) ≤ p315 ∧ p315 < (p314.length : Int)) (num_quoWords.j6 p315 p491 (p314.set p315.toNat (p494 % 4294967296)))
def num_quoWords.j10 (p315 : Int) (p103 : (List Int)) (p314 : (List Int)) (p424 : Int) (p535 : (List Int)) (p538 : Int) : W (Ctl ((List Int) × (List Int) × Int) ((List Int) × (List Int))) :=
  W.req (I64 (p315 + (p103.length : Int))) (W.req ((0 : Int) ≤ (p315 + (p103.length : Int)) ∧ (p315 + (p103.length : Int)) < (p535.length : Int)) (W.req ((0 : Int) ≤ (p315 + (p103.length : Int)) ∧ (p315 + (p103.length : Int)) < (p535.length : Int)) (num_quoWords.j9 p315 p314 (p535.set (p315 + (p103.length : Int)).toNat (((gi p535 (p315 + (p103.length : Int))) + (p538 % 4294967296)) % 4294967296)) ((p424 - 1) % 18446744073709551616))))
def num_quoWords.l3 (p103 : (List Int)) (p315 : Int) (p583 : (List Int)) (p586 : Int) (p588 : Int) : W (Ctl ((List Int) × Int × Int) ((List Int) × (List Int))) :=
  if p588 < (p103.length : Int) then (W.req (I64 (p588 + p315)) (W.req ((0 : Int) ≤ (p588 + p315) ∧ (p588 + p315) < (p583.length : Int)) (W.req ((0 : Int) ≤ p588 ∧ p588 < (p103.length : Int)) (W.req (I64 (p588 + p315)) (W.req ((0 : Int) ≤ (p588 + p315) ∧ (p588 + p315) < (p583.length : Int)) (W.ret (.go ((p583.set (p588 + p315).toNat (((((gi p583 (p588 + p315)) + (gi p103 p588)) + p586) % 18446744073709551616) % 4294967296)), (ishr .u64 ((((gi p583 (p588 + p315)) + (gi p103 p588)) + p586) % 18446744073709551616) 32), (p588 + 1))))))))) else (W.ret (.brk (p583, p586, p588)))
def num_quoWords.j8 (p315 : Int) (p103 : (List Int)) (p314 : (List Int)) (p424 : Int) (p433 : (List Int)) (p436 : Int) (p438 : Int) : W (Ctl ((List Int) × (List Int) × Int) ((List Int) × (List Int))) :=
  W.req (I64 (p315 + (p103.length : Int))) (W.req ((0 : Int) ≤ (p315 + (p103.length : Int)) ∧ (p315 + (p103.length : Int)) < (p433.length : Int)) (W.req (I64 ((gi p433 (p315 + (p103.length : Int))) - p436)) (W.req (I64 (((gi p433 (p315 + (p103.length : Int))) - p436) - (IntKind.i64.wrap p438))) (W.req (I64 (p315 + (p103.length : Int))) (W.req ((0 : Int) ≤ (p315 + (p103.length : Int)) ∧ (p315 + (p103.length : Int)) < (p433.length : Int)) (if (((gi p433 (p315 + (p103.length : Int))) - p436) - (IntKind.i64.wrap p438)) < 0 then (W.bind (W.loop (fun (s : (List Int) × Int × Int) => num_quoWords.l3 p103 p315 s.1 s.2.1 s.2.2) ((p433.set (p315 + (p103.length : Int)).toNat ((((gi p433 (p315 + (p103.length : Int))) - p436) - (IntKind.i64.wrap p438)) % 4294967296)), 0, 0)) (Lp.on (fun s => num_quoWords.j10 p315 p103 p314 p424 s.1 s.2.1) (fun r => W.ret (.out r)))) else (num_quoWords.j9 p315 p314 (p433.set (p315 + (p103.length : Int)).toNat ((((gi p433 (p315 + (p103.length : Int))) - p436) - (IntKind.i64.wrap p438)) % 4294967296)) p424)))))))
def num_quoWords.l4 (p103 : (List Int)) (p315 : Int) (p424 : Int) (p675 : (List Int)) (p678 : Int) (p680 : Int) (p682 : Int) : W (Ctl ((List Int) × Int × Int × Int) ((List Int) × (List Int))) :=
  if p682 < (p103.length : Int) then (W.req ((0 : Int) ≤ p682 ∧ p682 < (p103.length : Int)) (W.req (I64 (p682 + p315)) (W.req ((0 : Int) ≤ (p682 + p315) ∧ (p682 + p315) < (p675.length : Int)) (W.req (I64 ((gi p675 (p682 + p315)) - p678)) (W.req (I64 (((gi p675 (p682 + p315)) - p678) - (((((p424 * (gi p103 p682)) % 18446744073709551616) + p680) % 18446744073709551616) % 4294967296))) (W.req (I64 (p682 + p315)) (W.req ((0 : Int) ≤ (p682 + p315) ∧ (p682 + p315) < (p675.length : Int)) (if (((gi p675 (p682 + p315)) - p678) - (((((p424 * (gi p103 p682)) % 18446744073709551616) + p680) % 18446744073709551616) % 4294967296)) < 0 then (W.ret (.go ((p675.set (p682 + p315).toNat ((((gi p675 (p682 + p315)) - p678) - (((((p424 * (gi p103 p682)) % 18446744073709551616) + p680) % 18446744073709551616) % 4294967296)) % 4294967296)), 1, (ishr .u64 ((((p424 * (gi p103 p682)) % 18446744073709551616) + p680) % 18446744073709551616) 32), (p682 + 1)))) else (W.ret (.go ((p675.set (p682 + p315).toNat ((((gi p675 (p682 + p315)) - p678) - (((((p424 * (gi p103 p682)) % 18446744073709551616) + p680) % 18446744073709551616) % 4294967296)) % 4294967296)), 0, (ishr .u64 ((((p424 * (gi p103 p682)) % 18446744073709551616) + p680) % 18446744073709551616) 32), (p682 + 1)))))))))))) else (W.ret (.brk (p675, p678, p680, p682)))
def num_quoWords.j7 (p103 : (List Int)) (p315 : Int) (p311 : (List Int)) (p314 : (List Int)) (p424 : Int) : W (Ctl ((List Int) × (List Int) × Int) ((List Int) × (List Int))) :=
  W.bind (W.loop (fun (s : (List Int) × Int × Int × Int) => num_quoWords.l4 p103 p315 p424 s.1 s.2.1 s.2.2.1 s.2.2.2) (p311, 0, 0, 0)) (Lp.on (fun s => num_quoWords.j8 p315 p103 p314 p424 s.1 s.2.1 s.2.2.1) (fun r => W.ret (.out r)))
def num_quoWords.j11 (p103 : (List Int)) (p780 : Int) (p778 : Int) : W (Ctl (Int × Int) ((List Int) × (List Int))) :=
  W.req ((0 : Int) ≤ ((p103.length : Int) - 1) ∧ ((p103.length : Int) - 1) < (p103.length : Int)) (if ((p780 + (gi p103 ((p103.length : Int) - 1))) % 18446744073709551616) ≥ 4294967296 then (W.ret (.brk (((p778 - 1) % 18446744073709551616), ((p780 + (gi p103 ((p103.length : Int) - 1))) % 18446744073709551616)))) else (W.ret (.go (((p778 - 1) % 18446744073709551616), ((p780 + (gi p103 ((p103.length : Int) - 1))) % 18446744073709551616)))))
def num_quoWords.l5 (p103 : (List Int)) (p315 : Int) (p311 : (List Int)) (p778 : Int) (p780 : Int) : W (Ctl (Int × Int) ((List Int) × (List Int))) :=
  if p778 ≥ 4294967296 then (num_quoWords.j11 p103 p780 p778) else (W.req ((0 : Int) ≤ ((p103.length : Int) - 2) ∧ ((p103.length : Int) - 2) < (p103.length : Int)) (W.req (I64 (p315 + (p103.length : Int))) (W.req (I64 ((p315 + (p103.length : Int)) - 2)) (W.req ((0 : Int) ≤ ((p315 + (p103.length : Int)) - 2) ∧ ((p315 + (p103.length : Int)) - 2) < (p311.length : Int)) (if ((p778 * (gi p103 ((p103.length : Int) - 2))) % 18446744073709551616) > (ior .u64 (ishl .u64 p780 32) (gi p311 ((p315 + (p103.length : Int)) - 2))) then (num_quoWords.j11 p103 p780 p778) else (W.ret (.brk (p778, p780))))))))
def num_quoWords.l2 (p103 : (List Int)) (p311 : (List Int)) (p314 : (List Int)) (p315 : Int) : W (Ctl ((List Int) × (List Int) × Int) ((List Int) × (List Int))) :=
  if p315 ≥ 0 then (W.req (I64 (p315 + (p103.length : Int))) (W.req ((0 : Int) ≤ (p315 + (p103.length : Int)) ∧ (p315 + (p103.length : Int)) < (p311.length : Int)) (W.req (I64 (p315 + (p103.length : Int))) (W.req (I64 ((p315 + (p103.length : Int)) - 1)) (W.req ((0 : Int) ≤ ((p315 + (p103.length : Int)) - 1) ∧ ((p315 + (p103.length : Int)) - 1) < (p311.length : Int)) (W.req ((0 : Int) ≤ ((p103.length : Int) - 1) ∧ ((p103.length : Int) - 1) < (p103.length : Int)) (W.req ((gi p103 ((p103.length : Int) - 1)) ≠ 0) (W.req ((0 : Int) ≤ ((p103.length : Int) - 1) ∧ ((p103.length : Int) - 1) < (p103.length : Int)) (W.req ((gi p103 ((p103.length : Int) - 1)) ≠ 0) (W.bind (W.loop (fun (s : Int × Int) => num_quoWords.l5 p103 p315 p311 s.1 s.2) (((ior .u64 (ishl .u64 (gi p311 (p315 + (p103.length : Int))) 32) (gi p311 ((p315 + (p103.length : Int)) - 1))).tdiv (gi p103 ((p103.length : Int) - 1))), ((ior .u64 (ishl .u64 (gi p311 (p315 + (p103.length : Int))) 32) (gi p311 ((p315 + (p103.length : Int)) - 1))).tmod (gi p103 ((p103.length : Int) - 1))))) (Lp.on (fun s => num_quoWords.j7 p103 p315 p311 p314 s.1) (fun r => W.ret (.out r))))))))))))) else (W.ret (.brk (p311, p314, p315)))
def num_quoWords.j3 (x0 : (List Int)) (p103 : (List Int)) (r61 : Int) (p109 : (List Int)) : W ((List Int) × (List Int)) :=
  W.req ((0 : Int) ≤ (((x0.length : Int) - (p103.length : Int)) + 1) ∧ (((x0.length : Int) - (p103.length : Int)) + 1) ≤ (70368744177664 : Int)) (W.bind (W.loop (fun (s : (List Int) × (List Int) × Int) => num_quoWords.l2 p103 s.1 s.2.1 s.2.2) (p109, (List.replicate (((x0.length : Int) - (p103.length : Int)) + 1).toNat (0 : Int)), ((x0.length : Int) - (p103.length : Int)))) (Lp.on (fun s => num_quoWords.j4 p103 r61 s.1 s.2.1) (fun r => W.ret r)))
def num_quoWords.j12 (p873 : Int) (r61 : Int) (x0 : (List Int)) (p889 : (List Int)) : W (Ctl ((List Int) × Int) ((List Int) × (List Int))) :=
  if p873 > 0 then (if (r61 % 18446744073709551616) > 0 then (W.req ((0 : Int) ≤ p873 ∧ p873 < (p889.length : Int)) (W.req ((0 : Int) ≤ (p873 - 1) ∧ (p873 - 1) < (x0.length : Int)) (W.req ((0 : Int) ≤ p873 ∧ p873 < (p889.length : Int)) (W.ret (.go ((p889.set p873.toNat (ior .u32 (gi p889 p873) (ishr .u32 (gi x0 (p873 - 1)) ((32 - (r61 % 18446744073709551616)) % 18446744073709551616)))), (p873 + 1))))))) else (W.ret (.go (p889, (p873 + 1))))) else (W.ret (.go (p889, (p873 + 1))))
def num_quoWords.l6 (x0 : (List Int)) (r61 : Int) (p871 : (List Int)) (p873 : Int) : W (Ctl ((List Int) × Int) ((List Int) × (List Int))) :=
  if p873 < ((List.replicate ((x0.length : Int) + 1).toNat (0 : Int)).length : Int) then (if p873 < (x0.length : Int) then (W.req ((0 : Int) ≤ p873 ∧ p873 < (x0.length : Int)) (W.req ((0 : Int) ≤ p873 ∧ p873 < (p871.length : Int)) (num_quoWords.j12 p873 r61 x0 (p871.set p873.toNat (ishl .u32 (gi x0 p873) (r61 % 18446744073709551616)))))) else (num_quoWords.j12 p873 r61 x0 p871)) else (W.ret (.brk (p871, p873)))
def num_quoWords.j2 (x0 : (List Int)) (r61 : Int) (p103 : (List Int)) : W ((List Int) × (List Int)) :=
  W.bind (W.loop (fun (s : (List Int) × Int) => num_quoWords.l6 x0 r61 s.1 s.2) ((List.replicate ((x0.length : Int) + 1).toNat (0 : Int)), 0)) (Lp.on (fun s => num_quoWords.j3 x0 p103 r61 s.1) (fun r => W.ret r))
def num_quoWords.l7 (x1 : (List Int)) (r61 : Int) (p1015 : (List Int)) (p1016 : Int) : W (Ctl ((List Int) × Int) ((List Int) × (List Int))) :=
  if p1016 < (x1.length : Int) then (W.req ((0 : Int) ≤ p1016 ∧ p1016 < (x1.length : Int)) (W.req ((0 : Int) ≤ p1016 ∧ p1016 < (p1015.length : Int)) (if p1016 > 0 then (if (r61 % 18446744073709551616) > 0 then (W.req ((0 : Int) ≤ p1016 ∧ p1016 < ((p1015.set p1016.toNat (ishl .u32 (gi x1 p1016) (r61 % 18446744073709551616))).length : Int)) (W.req ((0 : Int) ≤ (p1016 - 1) ∧ (p1016 - 1) < (x1.length : Int)) (W.req ((0 : Int) ≤ p1016 ∧ p1016 < ((p1015.set p1016.toNat (ishl .u32 (gi x1 p1016) (r61 % 18446744073709551616))).length : Int)) (W.ret (.go (((p1015.set p1016.toNat (ishl .u32 (gi x1 p1016) (r61 % 18446744073709551616))).set p1016.toNat (ior .u32 (gi (p1015.set p1016.toNat (ishl .u32 (gi x1 p1016) (r61 % 18446744073709551616))) p1016) (ishr .u32 (gi x1 (p1016 - 1)) ((32 - (r61 % 18446744073709551616)) % 18446744073709551616)))), (p1016 + 1))))))) else (W.ret (.go ((p1015.set p1016.toNat (ishl .u32 (gi x1 p1016) (r61 % 18446744073709551616))), (p1016 + 1))))) else (W.ret (.go ((p1015.set p1016.toNat (ishl .u32 (gi x1 p1016) (r61 % 18446744073709551616))), (p1016 + 1))))))) else (W.ret (.brk (p1015, p1016)))
def num_quoWords.j1 (x1 : (List Int)) (x0 : (List Int)) : W ((List Int) × (List Int)) :=
  W.req ((0 : Int) ≤ ((x1.length : Int) - 1) ∧ ((x1.length : Int) - 1) < (x1.length : Int)) (W.bind (bits_LeadingZeros32.f (gi x1 ((x1.length : Int) - 1))) (fun r61 => W.req ((0 : Int) ≤ ((x0.length : Int) + 1) ∧ ((x0.length : Int) + 1) ≤ (70368744177664 : Int)) (W.req ((0 : Int) ≤ (x1.length : Int) ∧ (x1.length : Int) ≤ (70368744177664 : Int)) (W.bind (W.loop (fun (s : (List Int) × Int) => num_quoWords.l7 x1 r61 s.1 s.2) ((List.replicate (x1.length : Int).toNat (0 : Int)), 0)) (Lp.on (fun s => num_quoWords.j2 x0 r61 s.1) (fun r => W.ret r))))))
def num_quoWords.j13 (p1150 : (List Int)) (p1151 : Int) : W ((List Int) × (List Int)) :=
  W.ret (p1150, [(p1151 % 4294967296)])
def num_quoWords.l8 (x0 : (List Int)) (x1 : (List Int)) (p1176 : (List Int)) (p1177 : Int) (p1179 : Int) : W (Ctl ((List Int) × Int × Int) ((List Int) × (List Int))) :=
  if p1179 ≥ 0 then (W.req ((0 : Int) ≤ p1179 ∧ p1179 < (x0.length : Int)) (W.req ((0 : Int) ≤ 0 ∧ 0 < (x1.length : Int)) (W.req ((gi x1 0) ≠ 0) (W.req ((0 : Int) ≤ p1179 ∧ p1179 < (p1176.length : Int)) (W.req ((0 : Int) ≤ 0 ∧ 0 < (x1.length : Int)) (W.req ((gi x1 0) ≠ 0) (W.ret (.go ((p1176.set p1179.toNat (((ior .u64 (ishl .u64 p1177 32) (gi x0 p1179)).tdiv (gi x1 0)) % 4294967296)), ((ior .u64 (ishl .u64 p1177 32) (gi x0 p1179)).tmod (gi x1 0)), (p1179 - 1)))))))))) else (W.ret (.brk (p1176, p1177, p1179)))
def num_quoWords.f (x0 : (List Int)) (x1 : (List Int)) : W ((List Int) × (List Int)) :=
  W.bind (num_cmpWords.f x0 x1) (fun r7 => if r7 < 0 then (W.req (x0.length ≤ 35184372088832) (W.ret ([], x0))) else (if (x1.length : Int) = 1 then (W.req ((0 : Int) ≤ (x0.length : Int) ∧ (x0.length : Int) ≤ (70368744177664 : Int)) (W.bind (W.loop (fun (s : (List Int) × Int × Int) => num_quoWords.l8 x0 x1 s.1 s.2.1 s.2.2) ((List.replicate (x0.length : Int).toNat (0 : Int)), 0, ((x0.length : Int) - 1))) (Lp.on (fun s => num_quoWords.j13 s.1 s.2.1) (fun r => W.ret r)))) else (num_quoWords.j1 x1 x0)))
/-- (isocline/num.Z).Quo -/
def num_Z_Quo.j1 (x0 : num_Z) (x1 : num_Z) (p55 : num_Z) (p61 : num_Z) : W (num_Z × num_Z) :=
  W.bind (num_Z_words.f x0) (fun r92 => W.bind (num_Z_words.f x1) (fun r112 => W.bind (num_quoWords.f r92.1 r112.1) (fun r128 => W.bind (num_made.f r128.1 (!(r92.2 == r112.2))) (fun r157 => W.bind (num_made.f r128.2 r92.2) (fun r177 => W.ret (r157, r177))))))
def num_Z_Quo.f (x0 : num_Z) (x1 : num_Z) : W (num_Z × num_Z) :=
  if x0.m = [] then (if x1.m = [] then (if x0.v ≠ (-9223372036854775808) then (W.req (x1.v ≠ 0) (W.req (I64 (x0.v.tdiv x1.v)) (W.req (x1.v ≠ 0) (W.ret ((⟨(x0.v.tdiv x1.v), [], false⟩ : num_Z), (⟨(x0.v.tmod x1.v), [], false⟩ : num_Z)))))) else (num_Z_Quo.j1 x0 x1 (⟨(0 : Int), [], false⟩ : num_Z) (⟨(0 : Int), [], false⟩ : num_Z))) else (num_Z_Quo.j1 x0 x1 (⟨(0 : Int), [], false⟩ : num_Z) (⟨(0 : Int), [], false⟩ : num_Z))) else (num_Z_Quo.j1 x0 x1 (⟨(0 : Int), [], false⟩ : num_Z) (⟨(0 : Int), [], false⟩ : num_Z))
/-- isocline/num.Gcd -/
def num_Gcd.j1 (p123 : num_Z) (p129 : num_Z) : W num_Z :=
  W.ret p123
def num_Gcd.j2 (p163 : num_Z) (p169 : num_Z) (p228 : num_Z) : W (Ctl (num_Z × num_Z × num_Z) num_Z) :=
  W.bind (num_Z_Quo.f p163 p169) (fun r245 => W.ret (.go (p169, r245.2, p228)))
def num_Gcd.j3 (p405 : Int) : W (Ctl (num_Z × num_Z × num_Z) num_Z) :=
  W.ret (.out (⟨p405, [], false⟩ : num_Z))
def num_Gcd.l2 (p420 : Int) (p422 : Int) : W (Ctl (Int × Int) num_Z) :=
  if p422 ≠ 0 then (W.req (p422 ≠ 0) (W.ret (.go (p422, (p420.tmod p422))))) else (W.ret (.brk (p420, p422)))
def num_Gcd.l1 (p163 : num_Z) (p169 : num_Z) (p175 : num_Z) : W (Ctl (num_Z × num_Z × num_Z) num_Z) :=
  W.bind (num_Z_Sign.f p169) (fun r212 => if r212 ≠ 0 then (if p163.m = [] then (if p169.m = [] then (W.bind (W.loop (fun (s : Int × Int) => num_Gcd.l2 s.1 s.2) (p163.v, p169.v)) (Lp.on (fun s => num_Gcd.j3 s.1) (fun r => W.ret (.out r)))) else (num_Gcd.j2 p163 p169 p175)) else (num_Gcd.j2 p163 p169 p175)) else (W.ret (.brk (p163, p169, p175))))
def num_Gcd.f (x0 : num_Z) (x1 : num_Z) : W num_Z :=
  W.bind (num_Z_Abs.f x0) (fun r64 => W.bind (num_Z_Abs.f x1) (fun r85 => W.bind (W.loop (fun (s : num_Z × num_Z × num_Z) => num_Gcd.l1 s.1 s.2.1 s.2.2) (r64, r85, (⟨(0 : Int), [], false⟩ : num_Z))) (Lp.on (fun s => num_Gcd.j1 s.1 s.2.2) (fun r => W.ret r))))
/-- isocline/num.Over -/
def num_Over.j2 (p89 : num_Z) (p95 : num_Z) : W num_Q :=
  W.ret (⟨p89, p95⟩ : num_Q)
def num_Over.j1 (p56 : num_Z) (p62 : num_Z) : W num_Q :=
  W.bind (num_Gcd.f p56 p62) (fun r130 => if r130.m = [] then (if r130.v ≠ 1 then (W.bind (num_Z_Quo.f p56 r130) (fun r182 => W.bind (num_Z_Quo.f p62 r130) (fun r229 => num_Over.j2 r182.1 r229.1))) else (num_Over.j2 p56 p62)) else (W.bind (num_Z_Quo.f p56 r130) (fun r283 => W.bind (num_Z_Quo.f p62 r130) (fun r330 => num_Over.j2 r283.1 r330.1))))
def num_Over.f (x0 : num_Z) (x1 : num_Z) : W num_Q :=
  W.bind (num_Z_Sign.f x1) (fun r381 => if r381 < 0 then (W.bind (num_Z_Neg.f x0) (fun r400 => W.bind (num_Z_Neg.f x1) (fun r421 => num_Over.j1 r400 r421))) else (num_Over.j1 x0 x1))
/-- (isocline/num.Q).Mul -/
def num_Q_Mul.j1 (x0 : num_Q) (x1 : num_Q) (p62 : num_Q) : W num_Q :=
  W.bind (num_Z_Mul.f x0.N x1.N) (fun r104 => W.bind (num_Z_Mul.f x0.D x1.D) (fun r123 => W.bind (num_Over.f r104 r123) (fun r141 => W.ret r141)))
def num_Q_Mul.f (x0 : num_Q) (x1 : num_Q) : W num_Q :=
  W.bind (num_Q_IsInt.f x0) (fun r181 => if r181 = true then (W.bind (num_Q_IsInt.f x1) (fun r190 => if r190 = true then (W.bind (num_Z_Mul.f x0.N x1.N) (fun r211 => W.ret (⟨r211, x0.D⟩ : num_Q))) else (num_Q_Mul.j1 x0 x1 (⟨(⟨(0 : Int), [], false⟩ : num_Z), (⟨(0 : Int), [], false⟩ : num_Z)⟩ : num_Q)))) else (num_Q_Mul.j1 x0 x1 (⟨(⟨(0 : Int), [], false⟩ : num_Z), (⟨(0 : Int), [], false⟩ : num_Z)⟩ : num_Q)))
/-- (isocline/num.Q).Add -/
def num_Q_Add.j1 (x0 : num_Q) (x1 : num_Q) (p62 : num_Q) : W num_Q :=
  W.bind (num_Z_Mul.f x0.N x1.D) (fun r104 => W.bind (num_Z_Mul.f x1.N x0.D) (fun r123 => W.bind (num_Z_Add.f r104 r123) (fun r141 => W.bind (num_Z_Mul.f x0.D x1.D) (fun r161 => W.bind (num_Over.f r141 r161) (fun r179 => W.ret r179)))))
def num_Q_Add.f (x0 : num_Q) (x1 : num_Q) : W num_Q :=
  W.bind (num_Q_IsInt.f x0) (fun r219 => if r219 = true then (W.bind (num_Q_IsInt.f x1) (fun r228 => if r228 = true then (W.bind (num_Z_Add.f x0.N x1.N) (fun r249 => W.ret (⟨r249, x0.D⟩ : num_Q))) else (num_Q_Add.j1 x0 x1 (⟨(⟨(0 : Int), [], false⟩ : num_Z), (⟨(0 : Int), [], false⟩ : num_Z)⟩ : num_Q)))) else (num_Q_Add.j1 x0 x1 (⟨(⟨(0 : Int), [], false⟩ : num_Z), (⟨(0 : Int), [], false⟩ : num_Z)⟩ : num_Q)))
/-- (*isocline/fit.sums).add -/
def fit_sums_add.j1 (x2 : num_Q) (x0 : fit_sums) (p51 : (List (List num_Q))) (p53 : (List num_Q)) : W fit_sums :=
  W.bind (num_Q_Mul.f x2 x2) (fun r65 => W.bind (num_Q_Add.f x0.q r65) (fun r98 => W.ret (⟨x0.n, p51, p53, r98⟩ : fit_sums)))
def fit_sums_add.j2 (p148 : Int) (p160 : (List (List num_Q))) (p162 : (List num_Q)) : W (Ctl ((List (List num_Q)) × (List num_Q) × Int) fit_sums) :=
  W.ret (.go (p160, p162, (p148 + 1)))
def fit_sums_add.j3 (p148 : Int) (p146 : (List num_Q)) (x1 : (List num_Q)) (x2 : num_Q) (p173 : (List (List num_Q))) : W (Ctl ((List (List num_Q)) × (List num_Q) × Int) fit_sums) :=
  W.req ((0 : Int) ≤ p148 ∧ p148 < (p146.length : Int)) (W.req ((0 : Int) ≤ p148 ∧ p148 < (x1.length : Int)) (W.bind (num_Q_Mul.f (gi x1 p148) x2) (fun r254 => W.bind (num_Q_Add.f (gi p146 p148) r254) (fun r286 => W.req ((0 : Int) ≤ p148 ∧ p148 < (p146.length : Int)) (fit_sums_add.j2 p148 p173 (p146.set p148.toNat r286))))))
def fit_sums_add.l2 (x0 : fit_sums) (p148 : Int) (x1 : (List num_Q)) (p369 : (List (List num_Q))) (p372 : Int) : W (Ctl ((List (List num_Q)) × Int) fit_sums) :=
  if p372 < x0.n then (W.req ((0 : Int) ≤ p148 ∧ p148 < (p369.length : Int)) (W.req ((0 : Int) ≤ p148 ∧ p148 < (p369.length : Int)) (W.req ((0 : Int) ≤ p372 ∧ p372 < ((gi p369 p148).length : Int)) (W.req ((0 : Int) ≤ p148 ∧ p148 < (x1.length : Int)) (W.req ((0 : Int) ≤ p372 ∧ p372 < (x1.length : Int)) (W.bind (num_Q_Mul.f (gi x1 p148) (gi x1 p372)) (fun r505 => W.bind (num_Q_Add.f (gi (gi p369 p148) p372) r505) (fun r537 => W.req ((0 : Int) ≤ p372 ∧ p372 < ((gi p369 p148).length : Int)) (W.ret (.go ((p369.set p148.toNat ((gi p369 p148).set p372.toNat r537)), (p372 + 1)))))))))))) else (W.ret (.brk (p369, p372)))
def fit_sums_add.l1 (x0 : fit_sums) (x1 : (List num_Q)) (x2 : num_Q) (p144 : (List (List num_Q))) (p146 : (List num_Q)) (p148 : Int) : W (Ctl ((List (List num_Q)) × (List num_Q) × Int) fit_sums) :=
  if p148 < x0.n then (W.bind (W.loop (fun (s : (List (List num_Q)) × Int) => fit_sums_add.l2 x0 p148 x1 s.1 s.2) (p144, 0)) (Lp.on (fun s => fit_sums_add.j3 p148 p146 x1 x2 s.1) (fun r => W.ret (.out r)))) else (W.ret (.brk (p144, p146, p148)))
def fit_sums_add.f (x0 : fit_sums) (x1 : (List num_Q)) (x2 : num_Q) : W fit_sums :=
  W.bind (W.loop (fun (s : (List (List num_Q)) × (List num_Q) × Int) => fit_sums_add.l1 x0 x1 x2 s.1 s.2.1 s.2.2) (x0.m, x0.v, 0)) (Lp.on (fun s => fit_sums_add.j1 x2 x0 s.1 s.2.1) (fun r => W.ret r))
/-- slices.Clone[[]isocline/num.Q,isocline/num.Q] -/
def slices_Clone_numQ.f (x0 : (List num_Q)) : W (List num_Q) :=
  W.bind (W.any (fun b : Bool => b = true → x0 = [])) (fun r7 => if r7 = true then (W.ret []) else (W.req (([] : List num_Q).length + x0.length ≤ 1759218604441) (W.ret (([] : List num_Q) ++ x0))))
/-- (isocline/num.Q).IsZero -/
def num_Q_IsZero.f (x0 : num_Q) : W Bool :=
  W.bind (num_Z_Sign.f x0.N) (fun r28 => W.ret (decide (r28 = 0)))
/-- (isocline/num.Q).Div -/
def num_Q_Div.f (x0 : num_Q) (x1 : num_Q) : W num_Q :=
  W.bind (num_Z_Mul.f x0.N x1.D) (fun r71 => W.bind (num_Z_Mul.f x0.D x1.N) (fun r90 => W.bind (num_Over.f r71 r90) (fun r108 => W.ret r108)))
/-- (isocline/num.Q).Neg -/
def num_Q_Neg.f (x0 : num_Q) : W num_Q :=
  W.bind (num_Z_Neg.f x0.N) (fun r45 => W.ret (⟨r45, x0.D⟩ : num_Q))
/-- (isocline/num.Q).Sub -/
def num_Q_Sub.f (x0 : num_Q) (x1 : num_Q) : W num_Q :=
  W.bind (num_Q_Neg.f x1) (fun r71 => W.bind (num_Q_Add.f x0 r71) (fun r102 => W.ret r102))
/-- isocline/fit.reduce -/
def fit_reduce.j1 (p12 : (List (List num_Q))) (p15 : (List Int)) : W ((List Int) × (List (List num_Q))) :=
  W.ret (p15, p12)
def fit_reduce.j2 (p34 : Int) (p48 : (List (List num_Q))) (p51 : (List Int)) (p53 : Int) : W (Ctl ((List (List num_Q)) × (List Int) × Int × Int) ((List Int) × (List (List num_Q)))) :=
  W.ret (.go (p48, p51, p53, (p34 + 1)))
def fit_reduce.j5 (p30 : (List Int)) (p32 : Int) (p34 : Int) (p206 : (List (List num_Q))) : W (Ctl ((List (List num_Q)) × (List Int) × Int × Int) ((List Int) × (List (List num_Q)))) :=
  W.req (p30.length + 1 ≤ 17592186044416) (W.req (I64 (p32 + 1)) (fit_reduce.j2 p34 p206 (p30 ++ [p34]) (p32 + 1)))
def fit_reduce.j6 (p258 : Int) (p270 : (List (List num_Q))) : W (Ctl ((List (List num_Q)) × Int) ((List Int) × (List (List num_Q)))) :=
  W.ret (.go (p270, (p258 + 1)))
def fit_reduce.l3 (p256 : (List (List num_Q))) (p258 : Int) (p32 : Int) (p34 : Int) (p370 : (List (List num_Q))) (p373 : Int) : W (Ctl ((List (List num_Q)) × Int) ((List Int) × (List (List num_Q)))) :=
  if p373 < ((gi p256 p258).length : Int) then (W.req ((0 : Int) ≤ p258 ∧ p258 < (p370.length : Int)) (W.req ((0 : Int) ≤ p258 ∧ p258 < (p370.length : Int)) (W.req ((0 : Int) ≤ p373 ∧ p373 < ((gi p370 p258).length : Int)) (W.req ((0 : Int) ≤ p32 ∧ p32 < (p370.length : Int)) (W.req ((0 : Int) ≤ p373 ∧ p373 < ((gi p370 p32).length : Int)) (W.bind (num_Q_Mul.f (gi (gi p256 p258) p34) (gi (gi p370 p32) p373)) (fun r480 => W.bind (num_Q_Sub.f (gi (gi p370 p258) p373) r480) (fun r512 => W.req ((0 : Int) ≤ p373 ∧ p373 < ((gi p370 p258).length : Int)) (W.ret (.go ((p370.set p258.toNat ((gi p370 p258).set p373.toNat r512)), (p373 + 1)))))))))))) else (W.ret (.brk (p370, p373)))
def fit_reduce.l2 (p199 : (List (List num_Q))) (p34 : Int) (p32 : Int) (p256 : (List (List num_Q))) (p258 : Int) : W (Ctl ((List (List num_Q)) × Int) ((List Int) × (List (List num_Q)))) :=
  if p258 < (p199.length : Int) then (W.req ((0 : Int) ≤ p258 ∧ p258 < (p256.length : Int)) (W.req ((0 : Int) ≤ p34 ∧ p34 < ((gi p256 p258).length : Int)) (if p258 ≠ p32 then (W.bind (num_Q_IsZero.f (gi (gi p256 p258) p34)) (fun r342 => if r342 = true then (fit_reduce.j6 p258 p256) else (W.req ((0 : Int) ≤ p258 ∧ p258 < (p256.length : Int)) (W.bind (W.loop (fun (s : (List (List num_Q)) × Int) => fit_reduce.l3 p256 p258 p32 p34 s.1 s.2) (p256, 0)) (Lp.on (fun s => fit_reduce.j6 p258 s.1) (fun r => W.ret (.out r))))))) else (fit_reduce.j6 p258 p256)))) else (W.ret (.brk (p256, p258)))
def fit_reduce.j4 (p34 : Int) (p32 : Int) (p30 : (List Int)) (p199 : (List (List num_Q))) : W (Ctl ((List (List num_Q)) × (List Int) × Int × Int) ((List Int) × (List (List num_Q)))) :=
  W.bind (W.loop (fun (s : (List (List num_Q)) × Int) => fit_reduce.l2 p199 p34 p32 s.1 s.2) (p199, 0)) (Lp.on (fun s => fit_reduce.j5 p30 p32 p34 s.1) (fun r => W.ret (.out r)))
def fit_reduce.l4 (p27 : (List (List num_Q))) (p32 : Int) (p68 : Int) (p34 : Int) (p617 : (List (List num_Q))) (p620 : Int) : W (Ctl ((List (List num_Q)) × Int) ((List Int) × (List (List num_Q)))) :=
  if p620 < ((gi ((p27.set p32.toNat (gi p27 p68)).set p68.toNat (gi p27 p32)) p32).length : Int) then (W.req ((0 : Int) ≤ p32 ∧ p32 < (p617.length : Int)) (W.req ((0 : Int) ≤ p32 ∧ p32 < (p617.length : Int)) (W.req ((0 : Int) ≤ p620 ∧ p620 < ((gi p617 p32).length : Int)) (W.bind (num_Q_Div.f (gi (gi p617 p32) p620) (gi (gi ((p27.set p32.toNat (gi p27 p68)).set p68.toNat (gi p27 p32)) p32) p34)) (fun r687 => W.req ((0 : Int) ≤ p620 ∧ p620 < ((gi p617 p32).length : Int)) (W.ret (.go ((p617.set p32.toNat ((gi p617 p32).set p620.toNat r687)), (p620 + 1))))))))) else (W.ret (.brk (p617, p620)))
def fit_reduce.j3 (p27 : (List (List num_Q))) (p34 : Int) (p30 : (List Int)) (p32 : Int) (p68 : Int) : W (Ctl ((List (List num_Q)) × (List Int) × Int × Int) ((List Int) × (List (List num_Q)))) :=
  if p68 = (p27.length : Int) then (fit_reduce.j2 p34 p27 p30 p32) else (W.req ((0 : Int) ≤ p68 ∧ p68 < (p27.length : Int)) (W.req ((0 : Int) ≤ p32 ∧ p32 < (p27.length : Int)) (W.req ((0 : Int) ≤ p32 ∧ p32 < (p27.length : Int)) (W.req ((0 : Int) ≤ p68 ∧ p68 < (p27.length : Int)) (W.req ((0 : Int) ≤ p32 ∧ p32 < (((p27.set p32.toNat (gi p27 p68)).set p68.toNat (gi p27 p32)).length : Int)) (W.req ((0 : Int) ≤ p34 ∧ p34 < ((gi ((p27.set p32.toNat (gi p27 p68)).set p68.toNat (gi p27 p32)) p32).length : Int)) (W.req ((0 : Int) ≤ p32 ∧ p32 < (((p27.set p32.toNat (gi p27 p68)).set p68.toNat (gi p27 p32)).length : Int)) (W.bind (W.loop (fun (s : (List (List num_Q)) × Int) => fit_reduce.l4 p27 p32 p68 p34 s.1 s.2) (((p27.set p32.toNat (gi p27 p68)).set p68.toNat (gi p27 p32)), 0)) (Lp.on (fun s => fit_reduce.j4 p34 p32 p30 s.1) (fun r => W.ret (.out r)))))))))))
def fit_reduce.l5 (p27 : (List (List num_Q))) (p34 : Int) (p774 : Int) : W (Ctl Int ((List Int) × (List (List num_Q)))) :=
  if p774 < (p27.length : Int) then (W.req ((0 : Int) ≤ p774 ∧ p774 < (p27.length : Int)) (W.req ((0 : Int) ≤ p34 ∧ p34 < ((gi p27 p774).length : Int)) (W.bind (num_Q_IsZero.f (gi (gi p27 p774) p34)) (fun r825 => if r825 = true then (W.ret (.go (p774 + 1))) else (W.ret (.brk p774)))))) else (W.ret (.brk p774))
def fit_reduce.l1 (x1 : Int) (p27 : (List (List num_Q))) (p30 : (List Int)) (p32 : Int) (p34 : Int) : W (Ctl ((List (List num_Q)) × (List Int) × Int × Int) ((List Int) × (List (List num_Q)))) :=
  if p34 < x1 then (W.bind (W.loop (fun (s : Int) => fit_reduce.l5 p27 p34 s) p32) (Lp.on (fun s => fit_reduce.j3 p27 p34 p30 p32 s) (fun r => W.ret (.out r)))) else (W.ret (.brk (p27, p30, p32, p34)))
def fit_reduce.f (x0 : (List (List num_Q))) (x1 : Int) : W ((List Int) × (List (List num_Q))) :=
  W.bind (W.loop (fun (s : (List (List num_Q)) × (List Int) × Int × Int) => fit_reduce.l1 x1 s.1 s.2.1 s.2.2.1 s.2.2.2) (x0, [], 0, 0)) (Lp.on (fun s => fit_reduce.j1 s.1 s.2.1) (fun r => W.ret r))
/-- isocline/fit.solve -/
def fit_solve.j2 (p75 : (List num_Q)) : W ((List num_Q) × Bool) :=
  W.ret (p75, true)
def fit_solve.l1 (x0 : (List (List num_Q))) (r31 : (List Int) × (List (List num_Q))) (p86 : (List num_Q)) (p87 : Int) : W (Ctl ((List num_Q) × Int) ((List num_Q) × Bool)) :=
  if p87 < (x0.length : Int) then (W.req ((0 : Int) ≤ p87 ∧ p87 < (r31.2.length : Int)) (W.req ((0 : Int) ≤ (x0.length : Int) ∧ (x0.length : Int) < ((gi r31.2 p87).length : Int)) (W.req ((0 : Int) ≤ p87 ∧ p87 < (p86.length : Int)) (W.ret (.go ((p86.set p87.toNat (gi (gi r31.2 p87) (x0.length : Int))), (p87 + 1))))))) else (W.ret (.brk (p86, p87)))
def fit_solve.j1 (x0 : (List (List num_Q))) (p24 : (List (List num_Q))) : W ((List num_Q) × Bool) :=
  W.bind (fit_reduce.f p24 (x0.length : Int)) (fun r31 => if (r31.1.length : Int) < (x0.length : Int) then (W.ret ([], false)) else (W.req ((0 : Int) ≤ (x0.length : Int) ∧ (x0.length : Int) ≤ (3518437208883 : Int)) (W.bind (W.loop (fun (s : (List num_Q) × Int) => fit_solve.l1 x0 r31 s.1 s.2) ((List.replicate (x0.length : Int).toNat (⟨(⟨(0 : Int), [], false⟩ : num_Z), (⟨(0 : Int), [], false⟩ : num_Z)⟩ : num_Q)), 0)) (Lp.on (fun s => fit_solve.j2 s.1) (fun r => W.ret r)))))
def fit_solve.l2 (x0 : (List (List num_Q))) (x1 : (List num_Q)) (p189 : (List (List num_Q))) (p191 : Int) : W (Ctl ((List (List num_Q)) × Int) ((List num_Q) × Bool)) :=
  if p191 < (x0.length : Int) then (W.req ((0 : Int) ≤ p191 ∧ p191 < (x0.length : Int)) (W.req ((0 : Int) ≤ p191 ∧ p191 < (x1.length : Int)) (W.bind (slices_Clone_numQ.f (gi x0 p191)) (fun r264 => W.req (r264.length + 1 ≤ 1759218604441) (W.req ((0 : Int) ≤ p191 ∧ p191 < (p189.length : Int)) (W.ret (.go ((p189.set p191.toNat (r264 ++ [(gi x1 p191)])), (p191 + 1))))))))) else (W.ret (.brk (p189, p191)))
def fit_solve.f (x0 : (List (List num_Q))) (x1 : (List num_Q)) : W ((List num_Q) × Bool) :=
  W.req ((0 : Int) ≤ (x0.length : Int) ∧ (x0.length : Int) ≤ (11728124029610 : Int)) (W.bind (W.loop (fun (s : (List (List num_Q)) × Int) => fit_solve.l2 x0 x1 s.1 s.2) ((List.replicate (x0.length : Int).toNat ([] : (List num_Q))), 0)) (Lp.on (fun s => fit_solve.j1 x0 s.1) (fun r => W.ret r)))
/-- (isocline/num.Z).Int -/
def num_Z_Int.f (x0 : num_Z) (x1 : Int) : W (Int × Bool) :=
  if x0.m = [] then (if x0.v > x1 then (W.ret (0, false)) else (W.req (I64 (-x1)) (if x0.v < (-x1) then (W.ret (0, false)) else (W.ret (x0.v, true))))) else (W.ret (0, false))
/-- (isocline/num.Q).Out -/
def num_Q_Out.f (x0 : num_Q) : W (api_Rat × Bool) :=
  W.bind (num_Z_Int.f x0.N 1000000000000) (fun r38 => W.bind (num_Z_Int.f x0.D 1000000000000) (fun r51 => if r38.2 = true then (if r51.2 = true then (W.ret ((⟨r38.1, r51.1⟩ : api_Rat), true)) else (W.ret ((⟨0, 0⟩ : api_Rat), false))) else (W.ret ((⟨0, 0⟩ : api_Rat), false))))
/-- isocline/fit.Line -/
def fit_Line.j1 (p190 : Int) (p193 : (List (List num_Q))) (p197 : (List num_Q)) (p199 : num_Q) : W (api_Rat × api_Rat × Int) :=
  W.bind (fit_solve.f p193 p197) (fun r265 => if r265.2 = true then (W.req ((0 : Int) ≤ 0 ∧ 0 < (r265.1.length : Int)) (W.bind (num_Q_Out.f (gi r265.1 0)) (fun r328 => W.req ((0 : Int) ≤ 1 ∧ 1 < (r265.1.length : Int)) (W.bind (num_Q_Out.f (gi r265.1 1)) (fun r404 => if r328.2 = true then (if r404.2 = true then (W.ret (r328.1, r404.1, 0)) else (W.ret ((⟨0, 0⟩ : api_Rat), (⟨0, 0⟩ : api_Rat), 3))) else (W.ret ((⟨0, 0⟩ : api_Rat), (⟨0, 0⟩ : api_Rat), 3))))))) else (W.ret ((⟨0, 0⟩ : api_Rat), (⟨0, 0⟩ : api_Rat), 4)))
def fit_Line.l1 (x0 : (List api_Rat)) (x1 : (List api_Rat)) (p567 : Int) (p570 : (List (List num_Q))) (p574 : (List num_Q)) (p576 : num_Q) (p585 : Int) : W (Ctl (Int × (List (List num_Q)) × (List num_Q) × num_Q × Int) (api_Rat × api_Rat × Int)) :=
  if p585 < (x0.length : Int) then (W.req ((0 : Int) ≤ p585 ∧ p585 < (x0.length : Int)) (W.req ((0 : Int) ≤ p585 ∧ p585 < (x1.length : Int)) (W.bind (num_Of.f (gi x0 p585)) (fun r668 => W.bind (num_Int.f 1) (fun r702 => W.bind (num_Of.f (gi x1 p585)) (fun r749 => W.bind (fit_sums_add.f (⟨p567, p570, p574, p576⟩ : fit_sums) [r668, r702] r749) (fun r815 => W.ret (.go (r815.n, r815.m, r815.v, r815.q, (p585 + 1)))))))))) else (W.ret (.brk (p567, p570, p574, p576, p585)))
def fit_Line.f (x0 : (List api_Rat)) (x1 : (List api_Rat)) : W (api_Rat × api_Rat × Int) :=
  W.bind (num_AllValid.f x0) (fun r27 => if r27 = true then (W.bind (num_AllValid.f x1) (fun r35 => if r35 = true then (if (x0.length : Int) > 64 then (W.ret ((⟨0, 0⟩ : api_Rat), (⟨0, 0⟩ : api_Rat), 3)) else (if (x1.length : Int) > 64 then (W.ret ((⟨0, 0⟩ : api_Rat), (⟨0, 0⟩ : api_Rat), 3)) else (if (x0.length : Int) ≠ (x1.length : Int) then (W.ret ((⟨0, 0⟩ : api_Rat), (⟨0, 0⟩ : api_Rat), 8)) else (W.bind (fit_none.f 2) (fun r111 => W.bind (W.loop (fun (s : Int × (List (List num_Q)) × (List num_Q) × num_Q × Int) => fit_Line.l1 x0 x1 s.1 s.2.1 s.2.2.1 s.2.2.2.1 s.2.2.2.2) (r111.n, r111.m, r111.v, r111.q, 0)) (Lp.on (fun s => fit_Line.j1 s.1 s.2.1 s.2.2.1 s.2.2.2.1) (fun r => W.ret r))))))) else (W.ret ((⟨0, 0⟩ : api_Rat), (⟨0, 0⟩ : api_Rat), 1)))) else (W.ret ((⟨0, 0⟩ : api_Rat), (⟨0, 0⟩ : api_Rat), 1)))
/-- isocline/isoclineref01.Is -/
def ref01_Is.j2 (p44 : Int) : W Bool :=
  W.ret (decide (p44 = 1))
def ref01_Is.l1 (p52 : Int) (p54 : Int) : W (Ctl (Int × Int) Bool) :=
  if p54 > 0 then (W.req (p54 ≠ 0) (W.ret (.go (p54, (p52.tmod p54))))) else (W.ret (.brk (p52, p54)))
def ref01_Is.j1 (x0 : api_Rat) (p38 : Int) : W Bool :=
  W.bind (W.loop (fun (s : Int × Int) => ref01_Is.l1 s.1 s.2) (p38, x0.D)) (Lp.on (fun s => ref01_Is.j2 s.1) (fun r => W.ret r))
def ref01_Is.f (x0 : api_Rat) : W Bool :=
  if x0.D < 1 then (W.ret false) else (if x0.D > 1000000000000 then (W.ret false) else (if x0.N < (-1000000000000) then (W.ret false) else (if x0.N > 1000000000000 then (W.ret false) else (if x0.N < 0 then (W.req (I64 (-x0.N)) (ref01_Is.j1 x0 (-x0.N))) else (ref01_Is.j1 x0 x0.N)))))
/-- isocline/isoclinelaw27.known -/
def law27_known.f : W Bool :=
  W.req (3 ≤ ([(⟨0, 1⟩ : api_Rat), (⟨1, 1⟩ : api_Rat), (⟨2, 1⟩ : api_Rat), (⟨4, 1⟩ : api_Rat)].length : Int)) (W.req ((1 : Int) ≤ ([(⟨0, 1⟩ : api_Rat), (⟨1, 1⟩ : api_Rat), (⟨2, 1⟩ : api_Rat), (⟨4, 1⟩ : api_Rat)].length : Int)) (W.bind (fit_Line.f ([(⟨0, 1⟩ : api_Rat), (⟨1, 1⟩ : api_Rat), (⟨2, 1⟩ : api_Rat), (⟨4, 1⟩ : api_Rat)].take (3 : Int).toNat) ([(⟨0, 1⟩ : api_Rat), (⟨1, 1⟩ : api_Rat), (⟨2, 1⟩ : api_Rat), (⟨4, 1⟩ : api_Rat)].drop (1 : Int).toNat)) (fun r38 => if (decide (r38.1.N = 3) && (decide (r38.1.D = 2) && true)) = true then (if (decide (r38.2.1.N = 5) && (decide (r38.2.1.D = 6) && true)) = true then (W.ret (decide (r38.2.2 = 0))) else (W.ret false)) else (W.ret false))))
/-- isocline/mat.Validate -/
def mat_Validate.f (x0 : api_Mat) : W Int :=
  if x0.R < 0 then (W.ret 1) else (if x0.R > 12 then (W.ret 1) else (if x0.C < 0 then (W.ret 1) else (if x0.C > 12 then (W.ret 1) else (W.req (I64 (x0.R * x0.C)) (if (x0.V.length : Int) ≠ (x0.R * x0.C) then (W.ret 1) else (W.bind (num_AllValid.f x0.V) (fun r31 => if r31 = true then (W.ret 0) else (W.ret 1))))))))
/-- isocline/fit.known -/
def fit_known.f (x0 : api_Mat) (x1 : (List api_Rat)) : W Int :=
  W.bind (mat_Validate.f x0) (fun r13 => if r13 ≠ 0 then (W.ret r13) else (W.bind (num_AllValid.f x1) (fun r28 => if r28 = true then (W.ret 0) else (W.ret 1))))
/-- isocline/num.In -/
def num_In.j1 (p21 : (List num_Q)) : W (List num_Q) :=
  W.ret p21
def num_In.l1 (x0 : (List api_Rat)) (p32 : (List num_Q)) (p33 : Int) : W (Ctl ((List num_Q) × Int) (List num_Q)) :=
  if p33 < (x0.length : Int) then (W.req ((0 : Int) ≤ p33 ∧ p33 < (x0.length : Int)) (W.bind (num_Of.f (gi x0 p33)) (fun r79 => W.req ((0 : Int) ≤ p33 ∧ p33 < (p32.length : Int)) (W.ret (.go ((p32.set p33.toNat r79), (p33 + 1))))))) else (W.ret (.brk (p32, p33)))
def num_In.f (x0 : (List api_Rat)) : W (List num_Q) :=
  W.req ((0 : Int) ≤ (x0.length : Int) ∧ (x0.length : Int) ≤ (3518437208883 : Int)) (W.bind (W.loop (fun (s : (List num_Q) × Int) => num_In.l1 x0 s.1 s.2) ((List.replicate (x0.length : Int).toNat (⟨(⟨(0 : Int), [], false⟩ : num_Z), (⟨(0 : Int), [], false⟩ : num_Z)⟩ : num_Q)), 0)) (Lp.on (fun s => num_In.j1 s.1) (fun r => W.ret r)))
/-- isocline/fit.made -/
def fit_made.j1 (p113 : Int) (p116 : (List (List num_Q))) (p120 : (List num_Q)) (p122 : num_Q) (p131 : (List (List num_Q))) (p134 : (List num_Q)) : W fit_problem :=
  W.ret (⟨(⟨p113, p116, p120, p122⟩ : fit_sums), p131, p134⟩ : fit_problem)
def fit_made.l1 (x0 : api_Mat) (p191 : Int) (p194 : (List (List num_Q))) (p198 : (List num_Q)) (p200 : num_Q) (p209 : (List (List num_Q))) (p212 : (List num_Q)) (p215 : Int) : W (Ctl (Int × (List (List num_Q)) × (List num_Q) × num_Q × (List (List num_Q)) × (List num_Q) × Int) fit_problem) :=
  if p215 < x0.R then (W.req (I64 (p215 * x0.C)) (W.req (I64 ((p215 + 1) * x0.C)) (W.req ((0 : Int) ≤ (p215 * x0.C) ∧ ((p215 * x0.C) : Int) ≤ ((p215 + 1) * x0.C) ∧ ((p215 + 1) * x0.C) ≤ (x0.V.length : Int)) (W.bind (num_In.f ((x0.V.drop (p215 * x0.C).toNat).take (((p215 + 1) * x0.C) - (p215 * x0.C)).toNat)) (fun r282 => W.req (p209.length + 1 ≤ 5864062014805) (W.req ((0 : Int) ≤ p215 ∧ p215 < ((p209 ++ [r282]).length : Int)) (W.req ((0 : Int) ≤ p215 ∧ p215 < (p212.length : Int)) (W.bind (fit_sums_add.f (⟨p191, p194, p198, p200⟩ : fit_sums) (gi (p209 ++ [r282]) p215) (gi p212 p215)) (fun r412 => W.ret (.go (r412.n, r412.m, r412.v, r412.q, (p209 ++ [r282]), p212, (p215 + 1)))))))))))) else (W.ret (.brk (p191, p194, p198, p200, p209, p212, p215)))
def fit_made.f (x0 : api_Mat) (x1 : (List api_Rat)) : W fit_problem :=
  W.bind (fit_none.f x0.C) (fun r20 => W.bind (num_In.f x1) (fun r64 => W.bind (W.loop (fun (s : Int × (List (List num_Q)) × (List num_Q) × num_Q × (List (List num_Q)) × (List num_Q) × Int) => fit_made.l1 x0 s.1 s.2.1 s.2.2.1 s.2.2.2.1 s.2.2.2.2.1 s.2.2.2.2.2.1 s.2.2.2.2.2.2) (r20.n, r20.m, r20.v, r20.q, [], r64, 0)) (Lp.on (fun s => fit_made.j1 s.1 s.2.1 s.2.2.1 s.2.2.2.1 s.2.2.2.2.1 s.2.2.2.2.2.1) (fun r => W.ret r))))
/-- isocline/fit.dot -/
def fit_dot.j1 (p66 : num_Q) : W num_Q :=
  W.ret p66
def fit_dot.l1 (x0 : (List num_Q)) (x1 : (List num_Q)) (p108 : num_Q) (p117 : Int) : W (Ctl (num_Q × Int) num_Q) :=
  if p117 < (x0.length : Int) then (W.req ((0 : Int) ≤ p117 ∧ p117 < (x0.length : Int)) (W.req ((0 : Int) ≤ p117 ∧ p117 < (x1.length : Int)) (W.bind (num_Q_Mul.f (gi x0 p117) (gi x1 p117)) (fun r223 => W.bind (num_Q_Add.f p108 r223) (fun r255 => W.ret (.go (r255, (p117 + 1)))))))) else (W.ret (.brk (p108, p117)))
def fit_dot.f (x0 : (List num_Q)) (x1 : (List num_Q)) : W num_Q :=
  W.bind (num_Int.f 0) (fun r14 => W.bind (W.loop (fun (s : num_Q × Int) => fit_dot.l1 x0 x1 s.1 s.2) (r14, 0)) (Lp.on (fun s => fit_dot.j1 s.1) (fun r => W.ret r)))
/-- (isocline/fit.sums).err -/
def fit_sums_err.j1 (p235 : num_Q) : W num_Q :=
  W.ret p235
def fit_sums_err.l1 (x0 : fit_sums) (x1 : (List num_Q)) (p286 : num_Q) (p295 : Int) : W (Ctl (num_Q × Int) num_Q) :=
  if p295 < x0.n then (W.req ((0 : Int) ≤ p295 ∧ p295 < (x1.length : Int)) (W.req ((0 : Int) ≤ p295 ∧ p295 < (x0.m.length : Int)) (W.bind (fit_dot.f (gi x0.m p295) x1) (fun r386 => W.bind (num_Q_Mul.f (gi x1 p295) r386) (fun r417 => W.bind (num_Q_Add.f p286 r417) (fun r450 => W.ret (.go (r450, (p295 + 1))))))))) else (W.ret (.brk (p286, p295)))
def fit_sums_err.f (x0 : fit_sums) (x1 : (List num_Q)) : W num_Q :=
  W.bind (fit_dot.f x0.v x1) (fun r64 => W.bind (num_Int.f 2) (fun r100 => W.bind (num_Q_Mul.f r64 r100) (fun r138 => W.bind (num_Q_Sub.f x0.q r138) (fun r180 => W.bind (W.loop (fun (s : num_Q × Int) => fit_sums_err.l1 x0 x1 s.1 s.2) (r180, 0)) (Lp.on (fun s => fit_sums_err.j1 s.1) (fun r => W.ret r))))))
/-- isocline/num.Outs -/
def num_Outs.j1 (p21 : (List api_Rat)) : W ((List api_Rat) × Bool) :=
  W.ret (p21, true)
def num_Outs.l1 (x0 : (List num_Q)) (p32 : (List api_Rat)) (p33 : Int) : W (Ctl ((List api_Rat) × Int) ((List api_Rat) × Bool)) :=
  if p33 < (x0.length : Int) then (W.req ((0 : Int) ≤ p33 ∧ p33 < (x0.length : Int)) (W.bind (num_Q_Out.f (gi x0 p33)) (fun r98 => if r98.2 = true then (W.req ((0 : Int) ≤ p33 ∧ p33 < (p32.length : Int)) (W.ret (.go ((p32.set p33.toNat r98.1), (p33 + 1))))) else (W.ret (.out ([], false)))))) else (W.ret (.brk (p32, p33)))
def num_Outs.f (x0 : (List num_Q)) : W ((List api_Rat) × Bool) :=
  W.req ((0 : Int) ≤ (x0.length : Int) ∧ (x0.length : Int) ≤ (17592186044416 : Int)) (W.bind (W.loop (fun (s : (List api_Rat) × Int) => num_Outs.l1 x0 s.1 s.2) ((List.replicate (x0.length : Int).toNat (⟨(0 : Int), (0 : Int)⟩ : api_Rat)), 0)) (Lp.on (fun s => num_Outs.j1 s.1) (fun r => W.ret r)))
/-- isocline/fit.told -/
def fit_told.f (x0 : (List num_Q)) (x1 : num_Q) : W ((List api_Rat) × api_Rat × Int) :=
  W.bind (num_Outs.f x0) (fun r38 => W.bind (num_Q_Out.f x1) (fun r55 => if r38.2 = true then (if r55.2 = true then (W.ret (r38.1, r55.1, 0)) else (W.ret ([], (⟨0, 0⟩ : api_Rat), 3))) else (W.ret ([], (⟨0, 0⟩ : api_Rat), 3))))
/-- isocline/fit.Least -/
def fit_Least.f (x0 : api_Mat) (x1 : (List api_Rat)) : W ((List api_Rat) × api_Rat × Int) :=
  W.bind (fit_known.f x0 x1) (fun r22 => if r22 ≠ 0 then (W.ret ([], (⟨0, 0⟩ : api_Rat), r22)) else (if (x1.length : Int) ≠ x0.R then (W.ret ([], (⟨0, 0⟩ : api_Rat), 8)) else (W.bind (fit_made.f x0 x1) (fun r59 => W.bind (fit_solve.f r59.sums.m r59.sums.v) (fun r158 => if r158.2 = true then (W.bind (fit_sums_err.f r59.sums r158.1) (fun r189 => W.bind (fit_told.f r158.1 r189) (fun r220 => W.ret (r220.1, r220.2.1, r220.2.2)))) else (W.ret ([], (⟨0, 0⟩ : api_Rat), 4)))))))
/-- isocline/isoclineref04.numbers -/
def ref04_numbers.j1 : W Int :=
  W.ret 0
def ref04_numbers.l1 (x0 : (List api_Rat)) (p15 : Int) : W (Ctl Int Int) :=
  if p15 < (x0.length : Int) then (W.req ((0 : Int) ≤ p15 ∧ p15 < (x0.length : Int)) (W.bind (ref01_Is.f (gi x0 p15)) (fun r42 => if r42 = true then (W.ret (.go (p15 + 1))) else (W.ret (.out 1))))) else (W.ret (.brk p15))
def ref04_numbers.f (x0 : (List api_Rat)) : W Int :=
  W.bind (W.loop (fun (s : Int) => ref04_numbers.l1 x0 s) 0) (Lp.on (fun s => ref04_numbers.j1) (fun r => W.ret r))
/-- isocline/isoclineref04.Validate -/
def ref04_Validate.f (x0 : api_Mat) : W Int :=
  if x0.R < 0 then (W.ret 1) else (if x0.R > 12 then (W.ret 1) else (if x0.C < 0 then (W.ret 1) else (if x0.C > 12 then (W.ret 1) else (W.req (I64 (x0.R * x0.C)) (if (x0.V.length : Int) ≠ (x0.R * x0.C) then (W.ret 1) else (W.bind (ref04_numbers.f x0.V) (fun r33 => W.ret r33)))))))
/-- (isocline/fit.sums).out -/
def fit_sums_out.j1 (x0 : fit_sums) (p72 : api_Fit) (p83 : Int) (p85 : Int) (p87 : Int) (p90 : (List api_Rat)) (p92 : (List api_Rat)) (p98 : api_Rat) (p102 : Int) : W (api_Fit × Int) :=
  W.bind (num_Outs.f x0.v) (fun r138 => W.bind (num_Q_Out.f x0.q) (fun r167 => if r138.2 = true then (if r167.2 = true then (W.ret ((⟨p83, (⟨p85, p87, p90⟩ : api_Mat), r138.1, r167.1, p102⟩ : api_Fit), 0)) else (W.ret ((⟨0, (⟨(0 : Int), (0 : Int), []⟩ : api_Mat), [], (⟨(0 : Int), (0 : Int)⟩ : api_Rat), 0⟩ : api_Fit), 3))) else (W.ret ((⟨0, (⟨(0 : Int), (0 : Int), []⟩ : api_Mat), [], (⟨(0 : Int), (0 : Int)⟩ : api_Rat), 0⟩ : api_Fit), 3))))
def fit_sums_out.l1 (x0 : fit_sums) (p306 : api_Fit) (p317 : Int) (p319 : Int) (p321 : Int) (p324 : (List api_Rat)) (p326 : (List api_Rat)) (p332 : api_Rat) (p336 : Int) (p339 : Int) : W (Ctl (api_Fit × Int × Int × Int × (List api_Rat) × (List api_Rat) × api_Rat × Int × Int) (api_Fit × Int)) :=
  if p339 < (x0.m.length : Int) then (W.req ((0 : Int) ≤ p339 ∧ p339 < (x0.m.length : Int)) (W.bind (num_Outs.f (gi x0.m p339)) (fun r397 => if r397.2 = true then (W.req (p324.length + r397.1.length ≤ 8796093022208) (W.ret (.go (p306, p317, p319, p321, (p324 ++ r397.1), p326, p332, p336, (p339 + 1))))) else (W.ret (.out ((⟨0, (⟨(0 : Int), (0 : Int), []⟩ : api_Mat), [], (⟨(0 : Int), (0 : Int)⟩ : api_Rat), 0⟩ : api_Fit), 3)))))) else (W.ret (.brk (p306, p317, p319, p321, p324, p326, p332, p336, p339)))
def fit_sums_out.f (x0 : fit_sums) (x1 : Int) : W (api_Fit × Int) :=
  W.bind (W.loop (fun (s : api_Fit × Int × Int × Int × (List api_Rat) × (List api_Rat) × api_Rat × Int × Int) => fit_sums_out.l1 x0 s.1 s.2.1 s.2.2.1 s.2.2.2.1 s.2.2.2.2.1 s.2.2.2.2.2.1 s.2.2.2.2.2.2.1 s.2.2.2.2.2.2.2.1 s.2.2.2.2.2.2.2.2) ((⟨(0 : Int), (⟨(0 : Int), (0 : Int), []⟩ : api_Mat), [], (⟨(0 : Int), (0 : Int)⟩ : api_Rat), (0 : Int)⟩ : api_Fit), x0.n, x0.n, x0.n, [], [], (⟨(0 : Int), (0 : Int)⟩ : api_Rat), x1, 0)) (Lp.on (fun s => fit_sums_out.j1 x0 s.1 s.2.1 s.2.2.1 s.2.2.2.1 s.2.2.2.2.1 s.2.2.2.2.2.1 s.2.2.2.2.2.2.1 s.2.2.2.2.2.2.2.1) (fun r => W.ret r))
/-- isocline/fit.From -/
def fit_From.f (x0 : api_Mat) (x1 : (List api_Rat)) : W (api_Fit × Int) :=
  W.bind (fit_known.f x0 x1) (fun r22 => if r22 ≠ 0 then (W.ret ((⟨0, (⟨(0 : Int), (0 : Int), []⟩ : api_Mat), [], (⟨(0 : Int), (0 : Int)⟩ : api_Rat), 0⟩ : api_Fit), r22)) else (if (x1.length : Int) ≠ x0.R then (W.ret ((⟨0, (⟨(0 : Int), (0 : Int), []⟩ : api_Mat), [], (⟨(0 : Int), (0 : Int)⟩ : api_Rat), 0⟩ : api_Fit), 8)) else (W.bind (fit_made.f x0 x1) (fun r63 => W.bind (fit_sums_out.f r63.sums x0.R) (fun r142 => W.ret (r142.1, r142.2))))))
/-- isocline/fit.check -/
def fit_check.f (x0 : api_Fit) : W Int :=
  W.bind (mat_Validate.f x0.M) (fun r16 => if r16 ≠ 0 then (W.ret r16) else (if x0.M.R ≠ x0.N then (W.ret 8) else (if x0.M.C ≠ x0.N then (W.ret 8) else (if (x0.V.length : Int) ≠ x0.N then (W.ret 8) else (W.bind (num_AllValid.f x0.V) (fun r45 => if r45 = true then (W.bind (num_Valid.f x0.Q) (fun r54 => if r54 = true then (if x0.Rows < 0 then (W.ret 1) else (if x0.Rows > 1000000000 then (W.ret 1) else (W.ret 0))) else (W.ret 1))) else (W.ret 1)))))))
/-- isocline/fit.of -/
def fit_of.j1 (p119 : Int) (p122 : (List (List num_Q))) (p126 : (List num_Q)) (p128 : num_Q) : W fit_sums :=
  W.ret (⟨p119, p122, p126, p128⟩ : fit_sums)
def fit_of.l1 (x0 : api_Fit) (p182 : Int) (p185 : (List (List num_Q))) (p189 : (List num_Q)) (p191 : num_Q) (p200 : Int) : W (Ctl (Int × (List (List num_Q)) × (List num_Q) × num_Q × Int) fit_sums) :=
  if p200 < x0.N then (W.req (I64 (p200 * x0.N)) (W.req (I64 ((p200 + 1) * x0.N)) (W.req ((0 : Int) ≤ (p200 * x0.N) ∧ ((p200 * x0.N) : Int) ≤ ((p200 + 1) * x0.N) ∧ ((p200 + 1) * x0.N) ≤ (x0.M.V.length : Int)) (W.bind (num_In.f ((x0.M.V.drop (p200 * x0.N).toNat).take (((p200 + 1) * x0.N) - (p200 * x0.N)).toNat)) (fun r254 => W.req (p185.length + 1 ≤ 5864062014805) (W.ret (.go (p182, (p185 ++ [r254]), p189, p191, (p200 + 1))))))))) else (W.ret (.brk (p182, p185, p189, p191, p200)))
def fit_of.f (x0 : api_Fit) : W fit_sums :=
  W.bind (num_In.f x0.V) (fun r35 => W.bind (num_Of.f x0.Q) (fun r60 => W.bind (W.loop (fun (s : Int × (List (List num_Q)) × (List num_Q) × num_Q × Int) => fit_of.l1 x0 s.1 s.2.1 s.2.2.1 s.2.2.2.1 s.2.2.2.2) (x0.N, [], r35, r60, 0)) (Lp.on (fun s => fit_of.j1 s.1 s.2.1 s.2.2.1 s.2.2.2.1) (fun r => W.ret r))))
/-- isocline/fit.Add -/
def fit_Add.f (x0 : api_Fit) (x1 : (List api_Rat)) (x2 : api_Rat) : W (api_Fit × Int) :=
  W.bind (fit_check.f x0) (fun r37 => if r37 ≠ 0 then (W.ret ((⟨0, (⟨(0 : Int), (0 : Int), []⟩ : api_Mat), [], (⟨(0 : Int), (0 : Int)⟩ : api_Rat), 0⟩ : api_Fit), r37)) else (W.bind (num_AllValid.f x1) (fun r59 => if r59 = true then (W.bind (num_Valid.f x2) (fun r70 => if r70 = true then (if (x1.length : Int) ≠ x0.N then (W.ret ((⟨0, (⟨(0 : Int), (0 : Int), []⟩ : api_Mat), [], (⟨(0 : Int), (0 : Int)⟩ : api_Rat), 0⟩ : api_Fit), 8)) else (if x0.Rows = 1000000000 then (W.ret ((⟨0, (⟨(0 : Int), (0 : Int), []⟩ : api_Mat), [], (⟨(0 : Int), (0 : Int)⟩ : api_Rat), 0⟩ : api_Fit), 3)) else (W.bind (fit_of.f x0) (fun r110 => W.bind (num_In.f x1) (fun r192 => W.bind (num_Of.f x2) (fun r214 => W.bind (fit_sums_add.f (⟨r110.n, r110.m, r110.v, r110.q⟩ : fit_sums) r192 r214) (fun r252 => W.req (I64 (x0.Rows + 1)) (W.bind (fit_sums_out.f (⟨r252.n, r252.m, r252.v, r252.q⟩ : fit_sums) (x0.Rows + 1)) (fun r342 => W.ret (r342.1, r342.2)))))))))) else (W.ret ((⟨0, (⟨(0 : Int), (0 : Int), []⟩ : api_Mat), [], (⟨(0 : Int), (0 : Int)⟩ : api_Rat), 0⟩ : api_Fit), 1)))) else (W.ret ((⟨0, (⟨(0 : Int), (0 : Int), []⟩ : api_Mat), [], (⟨(0 : Int), (0 : Int)⟩ : api_Rat), 0⟩ : api_Fit), 1)))))
/-- isocline/fit.Answer -/
def fit_Answer.f (x0 : api_Fit) : W ((List api_Rat) × api_Rat × Int) :=
  W.bind (fit_check.f x0) (fun r26 => if r26 ≠ 0 then (W.ret ([], (⟨0, 0⟩ : api_Rat), r26)) else (W.bind (fit_of.f x0) (fun r49 => W.bind (fit_solve.f r49.m r49.v) (fun r126 => if r126.2 = true then (W.bind (fit_sums_err.f r49 r126.1) (fun r157 => W.bind (fit_told.f r126.1 r157) (fun r188 => W.ret (r188.1, r188.2.1, r188.2.2)))) else (W.ret ([], (⟨0, 0⟩ : api_Rat), 4))))))
/-- isocline/isoclinelaw27.same -/
def law27_same.j1 : W Bool :=
  W.ret true
def law27_same.l1 (x0 : (List api_Rat)) (x1 : (List api_Rat)) (p25 : Int) : W (Ctl Int Bool) :=
  if p25 < (x0.length : Int) then (W.req ((0 : Int) ≤ p25 ∧ p25 < (x0.length : Int)) (W.req ((0 : Int) ≤ p25 ∧ p25 < (x1.length : Int)) (if (decide (((gi x0 p25).N) = ((gi x1 p25).N)) && (decide (((gi x0 p25).D) = ((gi x1 p25).D)) && true)) = true then (W.ret (.go (p25 + 1))) else (W.ret (.out false))))) else (W.ret (.brk p25))
def law27_same.f (x0 : (List api_Rat)) (x1 : (List api_Rat)) : W Bool :=
  if (x0.length : Int) ≠ (x1.length : Int) then (W.ret false) else (W.bind (W.loop (fun (s : Int) => law27_same.l1 x0 x1 s) 0) (Lp.on (fun s => law27_same.j1) (fun r => W.ret r)))
/-- isocline/isoclinelaw27.FitRows -/
def law27_FitRows.j1 (r11 : (List api_Rat) × api_Rat × Int) (p167 : api_Fit) (p178 : Int) : W Bool :=
  if p178 ≠ 0 then (if p178 = 3 then (W.bind law27_known.f (fun r207 => W.ret r207)) else (W.ret false)) else (W.bind (fit_Answer.f p167) (fun r216 => if r216.2.2 = 0 then (W.bind (law27_same.f r11.1 r216.1) (fun r280 => if r280 = true then (if (decide (r11.2.1.N = r216.2.1.N) && (decide (r11.2.1.D = r216.2.1.D) && true)) = true then (W.bind law27_known.f (fun r290 => W.ret r290)) else (W.ret false)) else (W.ret false))) else (W.ret false)))
def law27_FitRows.l1 (x0 : api_Mat) (x1 : (List api_Rat)) (p310 : api_Fit) (p321 : Int) (p323 : Int) : W (Ctl (api_Fit × Int × Int) Bool) :=
  if p323 ≥ 0 then (if p321 = 0 then (W.req (I64 (p323 * x0.C)) (W.req (I64 (p323 + 1)) (W.req (I64 ((p323 + 1) * x0.C)) (W.req ((0 : Int) ≤ (p323 * x0.C) ∧ ((p323 * x0.C) : Int) ≤ ((p323 + 1) * x0.C) ∧ ((p323 + 1) * x0.C) ≤ (x0.V.length : Int)) (W.req ((0 : Int) ≤ p323 ∧ p323 < (x1.length : Int)) (W.bind (fit_Add.f p310 ((x0.V.drop (p323 * x0.C).toNat).take (((p323 + 1) * x0.C) - (p323 * x0.C)).toNat) (gi x1 p323)) (fun r396 => W.ret (.go (r396.1, r396.2, (p323 - 1)))))))))) else (W.ret (.brk (p310, p321, p323)))) else (W.ret (.brk (p310, p321, p323)))
def law27_FitRows.f (x0 : api_Mat) (x1 : (List api_Rat)) : W Bool :=
  W.bind (fit_Least.f x0 x1) (fun r11 => if r11.2.2 ≠ 0 then (W.bind law27_known.f (fun r60 => W.ret r60)) else (if x0.R > 12 then (W.bind law27_known.f (fun r72 => W.ret r72)) else (W.bind (ref04_Validate.f x0) (fun r78 => if r78 ≠ 0 then (W.bind law27_known.f (fun r88 => W.ret r88)) else (if (x1.length : Int) ≠ x0.R then (W.bind law27_known.f (fun r99 => W.ret r99)) else (W.bind (fit_From.f (⟨0, x0.C, []⟩ : api_Mat) []) (fun r108 => W.req (I64 (x0.R - 1)) (W.bind (W.loop (fun (s : api_Fit × Int × Int) => law27_FitRows.l1 x0 x1 s.1 s.2.1 s.2.2) (r108.1, r108.2, (x0.R - 1))) (Lp.on (fun s => law27_FitRows.j1 r11 s.1 s.2.1) (fun r => W.ret r))))))))))
end Go.Proofs.Ytlmpoindlejefaa.E
