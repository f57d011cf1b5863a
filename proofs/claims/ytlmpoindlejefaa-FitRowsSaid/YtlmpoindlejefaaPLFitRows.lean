/-
  Proved: for every input, FitRows (isoclinelaw27) returns true, and each argument reads afterwards as it read before. No condition.
-/
import Derived.Test.YtlmpoindlejefaaRows
import Derived.Test.YtlmpoindlejefaaPD2
import Derived.Test.YtlmpoindlejefaaPM24
import Derived.Test.YtlmpoindlejefaaPL0
set_option linter.unusedVariables false
namespace Go.Proofs.Ytlmpoindlejefaa.fitRows
open Go Go.ChangeShapes Go.WideShapes Go.ChangeAt Go.RowKit E
theorem own : ownKnob Try.prog.godebug = none := by kernel_rfl
theorem laidOut : laidOutB Try.prog = true := by kernel_rfl
set_option maxRecDepth 100000 in
theorem lifted (os : Os) (started : os.Started) (H : Type) (enc : TypeId × Value → H) :
    ReturnsInHanded {} Try.checked os 6 .any (Rows.fitRowsSpec.pre6 enc Try.prog Try.f6 Rows.fitRowsRow.domain false) (Rows.fitRowsSpec.post enc Try.prog Try.f6 false true false false) := by
  refine returnsInHanded_of_change_sized (C := Try.checked) own started (by kernel_rfl) Try.func6
    (ChangeSpec.witness6 (enc := enc) (C := Try.checked) false ⟨#[], #[.agg #[.int .i64 0, .int .i64 0, .slice none 0 0], .slice none 0 0], []⟩ 8 (by kernel_rfl) (by kernel_rfl) (by kernel_rfl) (by kernel_rfl)) ?_
  intro W base args ds gs before hval0 hW hcnd hsz0 _
  have hsz : (DataW.weightsEach Try.prog (Try.f6.params.toList ++ Rows.fitRowsSpec.plain.varTypes Try.prog) (ds ++ gs)).all (· ≤ reachBytes) = true := hsz0
  have hval : ∀ (j : Nat) t v, Try.f6.params[j]? = some t → args[j]? = some v → Value.okWide Try.prog W .any base t v := hval0
  have hW' := hW
  obtain ⟨p, q, hA0, hV, rfl, hfz, hnd⟩ := hW
  have hA : DataW.TrodAll enc Try.prog W 0 (fun _ => true) true Try.f6.params.toList args.toList ds p := hA0
  rw [Try.params6] at hA hval hsz
  obtain ⟨v0, vs0, d0, ds0, p0, q0, hargs, rfl, rfl, h0, r0⟩ := trodAll_cons hA
  obtain ⟨v1, vs1, d1, ds1, p1, q1, rfl, rfl, rfl, h1, r1⟩ := trodAll_cons r0
  obtain ⟨rfl, rfl, rfl⟩ := trodAll_nil r1
  obtain rfl : args = #[v0, v1] := by cases args; simp_all
  obtain ⟨rfl, rfl⟩ := trodVars_none hV
  obtain ⟨cs0, rfl, hs0⟩ := okWide_struct Try.underlying31 (hval 0 31 v0 rfl rfl)
  obtain ⟨u0, u1, u2, rfl⟩ := three (hs0.trans (by kernel_rfl))
  obtain ⟨a1, len1, cap1, rfl⟩ := okWide_slice Try.underlying22 (hval 1 22 v1 rfl rfl)
  have k0 := h0
  have k1 := h1
  have lt0 : ∀ x ∈ p0, x.block < W.heap.size := by obtain ⟨m, hm⟩ := k0; exact DataW.trod_lt m _ _ _ hm
  have lt1 : ∀ x ∈ p1, x.block < W.heap.size := by obtain ⟨m, hm⟩ := k1; exact DataW.trod_lt m _ _ _ hm
  obtain ⟨x0, a0, cap0, rfl, rfl, rfl, hI0, hI1, hc0, hb0, hR0⟩ := open_mat hsz (j := 0) (t := 31) rfl rfl Try.underlying31 rfl rfl rfl (by kernel_rfl) (by kernel_rfl) (by kernel_rfl) Try.underlying3 Try.underlying3 Try.underlying22 Try.underlying24 (by kernel_rfl) rfl rfl (by kernel_rfl) (by kernel_rfl) Try.underlying3 Try.underlying3 (B := 16) (by kernel_rfl) (by decide) h0
  obtain ⟨x1, rfl, hc1, hb1, hR1⟩ := open_pairs hsz (j := 1) (t := 22) rfl rfl Try.underlying22 Try.underlying24 (by kernel_rfl) rfl rfl (by kernel_rfl) (by kernel_rfl) Try.underlying3 Try.underlying3 (B := 16) (by kernel_rfl) (by decide) h1
  clear hA0 hval0 hsz0 hsz
  have hb : ∀ (x : List api_Rat) (A : Option Addr), Rd k_api_Rat (fun _ => False) W A x → Rn1 (fun b => W.heap.size ≤ b) k_api_Rat (fun _ => False) W A x := fun x A h => Rn1.re (Rd.rn1 h) (fun b hb hw => absurd hb (Nat.not_lt.2 hw))
  refine (law27_FitRows_calls x0 a0 cap0 x1 a1 cap1 (fun _ => False) W (fun _ h => h.elim) hI0 hI1 hc0 hb0 (hb _ _ hR0) hc1 hb1 (hb _ _ hR1) (fun b => b = true) (law27_FitRows_run hb0 hb1)).mono fun e W' he => ?_
  obtain ⟨v, rfl, ⟨r, rfl, rfl⟩, bel⟩ := he
  exact ⟨_, rfl, _, _, _, [], _, [], hW', trodAll_mk1 (shut_bool Try.underlying4 _), (trodAll_cons_mk (Below.trod laidOut (by kernel_rfl) (of_decide_eq_true (by kernel_rfl)) k0 bel lt0) (trodAll_cons_mk (Below.trod laidOut (by kernel_rfl) (of_decide_eq_true (by kernel_rfl)) k1 bel lt1) trodAll_mk0)), rfl, bel.frame _, fun h => by cases h⟩
theorem over : Rows.fitRowsRow.holds Try.pinned (OpenSpec.ofChange Rows.fitRowsSpec) :=
  OpenClaim.holds_of_wide 6 Try.f6 rfl rfl rfl rfl rfl rfl rfl ⟨rfl, rfl, rfl, rfl, rfl⟩ rfl rfl rfl rfl rfl (by kernel_rfl) Try.func6 (by kernel_rfl)
    (of_decide_eq_true (by kernel_rfl)) (by unfold Func.isWrapper; first | (rw [if_pos (by decide +kernel)]; kernel_rfl) | (rw [if_neg (by decide +kernel)]; exact ⟨rfl, rfl⟩))
    (fun os started H enc _ => lifted os started H enc)
end Go.Proofs.Ytlmpoindlejefaa.fitRows
namespace Go.Proofs.Ytlmpoindlejefaa
/-- The given statement. -/
theorem fitRows_holds : Rows.FitRowsSaid := fitRows.over
#print axioms fitRows_holds
end Go.Proofs.Ytlmpoindlejefaa
