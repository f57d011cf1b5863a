/- The reference's integers. -/
import Derived.Test.YtlmpoindlejefaaPM7
set_option linter.unusedVariables false
set_option linter.unusedSimpArgs false
namespace Go.Proofs.Ytlmpoindlejefaa.E
open Go Go.RowKit
/-- An integer by its sign and words. -/
structure WRep (z : ref01_whole) (n : Int) : Prop where
  wd : Wd (gn z.d)
  tr : Tr z.d
  val : n = if z.minus = true then - wv z.d else wv z.d
  pos : z.minus = true → z.d ≠ []
theorem WRep.abs {z : ref01_whole} {n : Int} (h : WRep z n) : wv z.d = n.natAbs := by
  have h0 := wv_nonneg h.wd
  rw [h.val]
  split <;> omega
theorem WRep.neg_iff {z : ref01_whole} {n : Int} (h : WRep z n) : z.minus = true ↔ n < 0 := by
  have h0 := wv_nonneg h.wd
  constructor
  · intro hm
    have h1 : ¬ wv z.d = 0 := fun e => h.pos hm ((h.tr.zero h.wd).1 e)
    rw [h.val, if_pos hm]
    omega
  · intro hn
    rcases Bool.eq_false_or_eq_true z.minus with e | e
    · exact e
    · rw [h.val, e, if_neg (by simp)] at hn
      omega
theorem WRep.nil_iff {z : ref01_whole} {n : Int} (h : WRep z n) : z.d = [] ↔ n = 0 := by
  rw [← h.tr.zero h.wd, h.abs]
  omega
/-! ### Sizes -/
theorem b_p2 (i : Nat) : (4294967296 : Int) ^ i = 2 ^ (32 * i) := by
  rw [Int.pow_mul]
  rfl
theorem Tr.bits {l : List Int} (ht : Tr l) (h : Wd (gn l)) {n : Nat} (hn : wv l = n) {s : Nat} (hs : n < 2 ^ s) : l.length ≤ s / 32 + 1 := by
  by_cases h0 : l = []
  · rw [h0]; exact Nat.zero_le _
  · have h1 := ht.ge h h0
    rw [hn, b_p2] at h1
    have h2 : 2 ^ (32 * (l.length - 1)) ≤ n := by
      have : ((2 ^ (32 * (l.length - 1)) : Nat) : Int) ≤ (n : Int) := by simpa using h1
      exact Int.ofNat_le.1 this
    have h3 : 32 * (l.length - 1) < s := (Nat.pow_lt_pow_iff_right (by decide)).1 (Nat.lt_of_le_of_lt h2 hs)
    omega
theorem WRep.len {z : ref01_whole} {n : Int} (h : WRep z n) {s : Nat} (hs : n.natAbs < 2 ^ s) : z.d.length ≤ s / 32 + 1 := h.tr.bits h.wd h.abs hs
theorem bits_mul {a b : Int} {s t : Nat} (ha : a.natAbs < 2 ^ s) (hb : b.natAbs < 2 ^ t) : (a * b).natAbs < 2 ^ (s + t) := by
  rw [Int.natAbs_mul, Nat.pow_add]
  exact Nat.mul_lt_mul'' ha hb
theorem bits_add {a b : Int} {s : Nat} (ha : a.natAbs < 2 ^ s) (hb : b.natAbs < 2 ^ s) : (a + b).natAbs < 2 ^ (s + 1) := by
  have := Int.natAbs_add_le a b
  rw [Nat.pow_succ]
  omega
theorem bits_mono {n s t : Nat} (h : n < 2 ^ s) (hst : s ≤ t) : n < 2 ^ t := Nat.lt_of_lt_of_le h (Nat.pow_le_pow_right (by decide) hst)
/-! ### Operations -/
section
variable {a b : ref01_whole} {x y : Int} {Q : ref01_whole → Prop}
end
end Go.Proofs.Ytlmpoindlejefaa.E
