/- Quotient and rest, as the reference finds them. -/
import Derived.Test.YtlmpoindlejefaaPM6
set_option linter.unusedVariables false
set_option linter.unusedSimpArgs false
namespace Go.Proofs.Ytlmpoindlejefaa.E
open Go Go.RowKit
theorem Wd.two {x y : Int} (hx : 0 ≤ x ∧ x < 4294967296) (hy : 0 ≤ y ∧ y < 4294967296) : Wd (gn [x, y]) := Wd.of (by
  intro z hz
  simp only [List.mem_cons, List.not_mem_nil, or_false] at hz
  rcases hz with rfl | rfl
  · exact hx
  · exact hy)
theorem divmod_unique {a b q r : Int} (hb : 0 < b) (h : a = q * b + r) (h0 : 0 ≤ r) (h1 : r < b) : q = a / b ∧ r = a % b := by
  have := Int.emod_add_mul_ediv a b
  exact quo_unique hb h h0 h1 (q' := a / b) (r' := a % b) (by rw [Int.mul_comm (a / b)]; omega) (Int.emod_nonneg a (by omega)) (Int.emod_lt_of_pos a hb)
section
variable {a b : List Int} {Q : List Int × List Int → Prop}
end
/-- Where long division stands: words from i on are found. -/
structure Div (A V : Int) (X out : List Int) (k m i : Nat) : Prop where
  lX : X.length = m + k
  lo : out.length = m
  wX : Wd (gn X)
  wo : Wd (gn out)
  im : i ≤ m
  high : ∀ j, i + k ≤ j → gn X j = 0
  lt : sv (gn X) i k < V
  val : A = sv (gn X) 0 i + 4294967296 ^ i * (sv (gn X) i k + sv (gn out) i (m - i) * V)
theorem Div.step {A : Int} {y X X' out : List Int} {k m i : Nat} {q : Int} (h : Div A (wv y) X out k m (i + 1)) (wy : Wd (gn y)) (ky : y.length = k) (w : Wout X X' y i k q) : Div A (wv y) X' (out.set i q) k m i := by
  have him := h.im
  have hVk : wv y < 4294967296 ^ k := by have := wv_lt wy; rwa [ky] at this
  have hzero : gn X' (i + k) = 0 := by
    have h1 := w.lt
    rw [sv] at h1
    have h2 := sv_nonneg w.wd i k
    have h3 := w.wd (i + k)
    rcases Int.lt_or_le 0 (gn X' (i + k)) with c | c
    · have : 4294967296 ^ k * 1 ≤ 4294967296 ^ k * gn X' (i + k) := Int.mul_le_mul_of_nonneg_left (by omega) (Int.le_of_lt (bpos k))
      omega
    · omega
  have hsv : sv (gn X') i (k + 1) = sv (gn X') i k := by rw [sv, hzero, Int.mul_zero, Int.add_zero]
  refine ⟨by rw [w.len]; exact h.lX, by rw [List.length_set]; exact h.lo, w.wd, h.wo.set ⟨w.q0, w.q1⟩, by omega, fun j hj => ?_, by rw [← hsv]; exact w.lt, ?_⟩
  · rcases Nat.eq_or_lt_of_le hj with e | e
    · rw [← e]; exact hzero
    · rw [w.high j (by omega)]; exact h.high j (by omega)
  · have hval := h.val
    have hw := w.val
    rw [hsv, sv_cons] at hw
    rw [sv, Nat.zero_add, bsucc] at hval
    obtain ⟨d, hd⟩ : ∃ d, m - i = d + 1 := ⟨m - i - 1, by omega⟩
    have hd' : m - (i + 1) = d := by omega
    rw [hd'] at hval
    rw [hd, sv_cons, gn_set, if_pos ⟨rfl, by rw [h.lo]; omega⟩, sv_congr (f := gn (out.set i q)) (g := gn out) (fun j hj _ => by rw [gn_set, if_neg (by omega)]), sv_congr (f := gn X') (g := gn X) (j := 0) (fun j _ hj => w.low j (by omega)), hval]
    generalize (4294967296 : Int) ^ i = E at *
    grind
section
variable {a b : List Int} {Q : List Int × List Int → Prop}
end
end Go.Proofs.Ytlmpoindlejefaa.E
