/- What the reference computes with words: order, sum, difference, product. -/
import Derived.Test.YtlmpoindlejefaaPM2
import Derived.Test.YtlmpoindlejefaaPTF
set_option linter.unusedVariables false
set_option linter.unusedSimpArgs false
namespace Go.Proofs.Ytlmpoindlejefaa.E
open Go Go.RowKit
theorem gi_nat (l : List Int) (i : Nat) : gi l (i : Int) = gn l i := by rw [gi_gn, Int.toNat_natCast]
/-- The highest word that differs decides. -/
theorem sv_less {f g : Nat → Int} (hf : Wd f) (hg : Wd g) {i n : Nat} (hi : i < n) (he : ∀ k, i < k → k < n → f k = g k) (h : f i < g i) : sv f 0 n < sv g 0 n := by
  obtain ⟨m, rfl⟩ := Nat.exists_eq_add_of_le (show i + 1 ≤ n by omega)
  rw [sv_split f 0 (i + 1) m, sv_split g 0 (i + 1) m, sv_congr (f := f) (g := g) (j := 0 + (i + 1)) (fun k h1 h2 => he k (by omega) (by omega))]
  have e1 : sv f 0 (i + 1) = sv f 0 i + 4294967296 ^ i * f i := by rw [sv, Nat.zero_add]
  have e2 : sv g 0 (i + 1) = sv g 0 i + 4294967296 ^ i * g i := by rw [sv, Nat.zero_add]
  rw [e1, e2]
  have h1 := sv_lt hf 0 i
  have h2 := sv_nonneg hg 0 i
  have h3 : (4294967296 : Int) ^ i * (f i + 1) ≤ 4294967296 ^ i * g i := Int.mul_le_mul_of_nonneg_left (by omega) (Int.le_of_lt (bpos i))
  rw [Int.mul_add] at h3
  omega
theorem wv_sv {l : List Int} {n : Nat} (h : l.length ≤ n) : sv (gn l) 0 n = wv l := (wv_of h).symm
def Cmp3 (r a b : Int) : Prop := r = -1 ∧ a < b ∨ r = 0 ∧ a = b ∨ r = 1 ∧ b < a
end Go.Proofs.Ytlmpoindlejefaa.E
