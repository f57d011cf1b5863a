/- The reference's numbers. -/
import Derived.Test.YtlmpoindlejefaaPM8
set_option linter.unusedVariables false
set_option linter.unusedSimpArgs false
namespace Go.Proofs.Ytlmpoindlejefaa.E
open Go Go.RowKit
/-- A size of a number, by bits. -/
def Sz (s : Nat) (x : Rat) : Prop := x.num.natAbs < 2 ^ s ∧ x.den < 2 ^ s
/-- A number that is not too large to be worked with. -/
def Ok (x : Rat) : Prop := ∃ s : Nat, s ≤ 8796093022208 ∧ Sz s x
theorem Sz.mono {s t : Nat} {x : Rat} (h : Sz s x) (hst : s ≤ t) : Sz t x := ⟨bits_mono h.1 hst, bits_mono h.2 hst⟩
theorem Sz.ok {s : Nat} {x : Rat} (h : Sz s x) (hs : s ≤ 8796093022208) : Ok x := ⟨s, hs, h⟩
/-- n over d in lowest terms. -/
theorem rat_over (n d : Int) (hd : d ≠ 0) : Rat.divInt n d = Rat.divInt (if d < 0 then -n else n) (d.natAbs : Int) := by
  split
  · rw [show (d.natAbs : Int) = -d by omega, Rat.neg_divInt_neg]
  · rw [show (d.natAbs : Int) = d by omega]
theorem over_num (n : Int) (d : Nat) (hd : d ≠ 0) : (Rat.divInt n d).num = n / (Nat.gcd n.natAbs d : Nat) := by
  rw [Rat.num_divInt, Int.gcd]
  rw [Int.sign_eq_one_of_pos (by omega), Int.one_mul, Int.natAbs_natCast, Nat.gcd_comm]
theorem over_den (n : Int) (d : Nat) (hd : d ≠ 0) : (Rat.divInt n d).den = d / Nat.gcd n.natAbs d := by
  rw [Rat.den_divInt, if_neg (by omega), Int.gcd, Int.natAbs_natCast, Nat.gcd_comm]
theorem Sz.over {n d : Int} {s : Nat} (hd : d ≠ 0) (hn : n.natAbs < 2 ^ s) (hd' : d.natAbs < 2 ^ s) : Sz s (Rat.divInt n d) := by
  rw [rat_over n d hd]
  have h0 : d.natAbs ≠ 0 := by omega
  have hg := Nat.gcd_pos_of_pos_right (if d < 0 then -n else n).natAbs (Nat.pos_of_ne_zero h0)
  constructor
  · rw [over_num _ _ h0]
    refine Nat.lt_of_le_of_lt ?_ hn
    rw [Int.natAbs_ediv_of_dvd (Int.ofNat_dvd_left.2 (Nat.gcd_dvd_left _ _)), Int.natAbs_natCast]
    refine Nat.le_trans (Nat.div_le_self _ _) ?_
    split <;> omega
  · rw [over_den _ _ h0]
    exact Nat.lt_of_le_of_lt (Nat.div_le_self _ _) hd'
theorem add_over (x y : Rat) : x + y = Rat.divInt (x.num * y.den + y.num * x.den) ((x.den : Int) * y.den) := by
  rw [Rat.add_def', ← Rat.divInt_ofNat]
  simp
theorem mul_over (x y : Rat) : x * y = Rat.divInt (x.num * y.num) ((x.den : Int) * y.den) := by
  rw [Rat.mul_def', ← Rat.divInt_ofNat]
  simp
theorem div_over (x y : Rat) : x / y = Rat.divInt (x.num * y.den) ((x.den : Int) * y.num) := by
  have h1 := Rat.num_divInt_den x
  have h2 := Rat.num_divInt_den y
  rw [Rat.div_def]
  conv => lhs; rw [← h1, ← h2, Rat.inv_divInt, Rat.divInt_mul_divInt]
theorem den_ne (x : Rat) : (x.den : Int) ≠ 0 := by have := x.den_pos; omega
theorem Sz.add {x y : Rat} {s t : Nat} (hx : Sz s x) (hy : Sz t y) : Sz (s + t + 1) (x + y) := by
  rw [add_over]
  refine Sz.over (Int.mul_ne_zero (den_ne x) (den_ne y)) (bits_add (bits_mul hx.1 (by simpa using hy.2)) ?_) (bits_mono (bits_mul (by simpa using hx.2) (by simpa using hy.2)) (by omega))
  rw [Nat.add_comm s t]
  exact bits_mul hy.1 (by simpa using hx.2)
theorem Sz.neg {x : Rat} {s : Nat} (h : Sz s x) : Sz s (-x) := by
  refine ⟨?_, by simpa using h.2⟩
  rw [Rat.neg_num, Int.natAbs_neg]; exact h.1
theorem Sz.sub {x y : Rat} {s t : Nat} (hx : Sz s x) (hy : Sz t y) : Sz (s + t + 1) (x - y) := by
  rw [Rat.sub_eq_add_neg]; exact hx.add hy.neg
theorem Sz.mul {x y : Rat} {s t : Nat} (hx : Sz s x) (hy : Sz t y) : Sz (s + t) (x * y) := by
  rw [mul_over]
  exact Sz.over (Int.mul_ne_zero (den_ne x) (den_ne y)) (bits_mul hx.1 hy.1) (bits_mul (by simpa using hx.2) (by simpa using hy.2))
theorem Sz.div {x y : Rat} {s t : Nat} (hx : Sz s x) (hy : Sz t y) (h0 : y ≠ 0) : Sz (s + t) (x / y) := by
  rw [div_over]
  exact Sz.over (Int.mul_ne_zero (den_ne x) (fun e => h0 (Rat.num_eq_zero.1 e))) (bits_mul hx.1 (by simpa using hy.2)) (bits_mul (by simpa using hx.2) hy.1)
/-! ### The representation -/
structure RRep (z : ref01_Q) (x : Rat) : Prop where
  n : WRep z.n x.num
  d : WRep z.d x.den ∨ WRep z.d 0 ∧ x.den = 1
section
variable {a b : ref01_Q} {x y : Rat} {Q : ref01_Q → Prop}
end
end Go.Proofs.Ytlmpoindlejefaa.E
