/- Rows that are added one by one tell what they tell together: what the program does, and the law. -/
import Derived.Test.YtlmpoindlejefaaPM23
set_option linter.unusedVariables false
set_option linter.unusedSimpArgs false
namespace Go.Proofs.Ytlmpoindlejefaa.E
open Go Go.RowKit
theorem fit_known_run {m : api_Mat} {b : List api_Rat} {Q : Int → Prop} (hl : m.V.length ≤ 281474976710656) (hb : b.length ≤ 281474976710656) (h0 : matOk m → (∀ r ∈ b, valid r) → Q 0) (h1 : ¬ (matOk m ∧ ∀ r ∈ b, valid r) → Q 1) : (fit_known.f m b).run Q := by
  unfold fit_known.f
  refine W.bd (mat_Validate_run hl (fun c => ?_) (fun c => ?_))
  · rw [if_neg (by decide)]
    exact W.bd (num_AllValid_run hb (W.run_if (fun c2 => h0 c (of_decide_eq_true c2)) (fun c2 => h1 fun h => c2 (decide_eq_true h.2))))
  · rw [if_pos (by decide)]
    exact h1 fun h => c h.1
/-- The one solution of n equations. -/
def Sol (n : Nat) (A : Nat → Nat → Rat) (V x : Nat → Rat) : Prop := ∀ y, (∀ i, i < n → dz n (A i) y = V i) ↔ ∀ i, i < n → y i = x i
theorem szR_12 {s n : Nat} (hs : s ≤ 973) (hn : n ≤ 12) : szR s n ≤ 16400000000 := by
  have h1 := szR_mono s hn
  have h2 : szR s 12 ≤ 16400000000 := by simp only [szR]; omega
  omega
theorem fit_Least_run {m : api_Mat} {b : List api_Rat} {Q : List api_Rat × api_Rat × Int → Prop} (hl : m.V.length ≤ 281474976710656) (hb : b.length ≤ 281474976710656) (h1 : ∀ l r e, e ≠ 0 → Q (l, r, e))
    (h0 : ∀ (r c : Nat) (x : Nat → Rat), matOk m → (∀ k, k < r → valid (gd b k)) → m.R = r → m.C = c → b.length = r → Sol c (gA m.V c r) (gV m.V b c r) x → allTold c x → (toldR (errQ c (gA m.V c r) (gV m.V b c r) (gq b r) x)).2 = true → Q (tolds c x, (toldR (errQ c (gA m.V c r) (gV m.V b c r) (gq b r) x)).1, 0)) : (fit_Least.f m b).run Q := by
  unfold fit_Least.f
  refine W.bd (fit_known_run hl hb (fun ok vb => ?_) (fun c => ?_))
  · rw [if_neg (by decide)]
    refine W.run_if (fun c => h1 _ _ _ (by decide)) (fun c => ?_)
    have o1 := ok.1
    have o2 := ok.2.1
    obtain ⟨r, hR⟩ := Int.eq_ofNat_of_zero_le o1.1
    obtain ⟨c', hC⟩ := Int.eq_ofNat_of_zero_le o2.1
    have hbl : b.length = r := by omega
    have hr12 : r ≤ 12 := by omega
    have hc12 : c' ≤ 12 := by omega
    have vb' : ∀ k, k < r → valid (gd b k) := fun k hk => (all_valid_iff b).1 vb k (by omega)
    have z := g_small (n := r) hr12 (Nat.le_refl r) (ok.at hR hC).2 vb'
    refine W.bd (fit_made_run ok hR hC hbl vb' fun P hP => W.bd (fit_solve_run hP.hm hP.hv (by omega) (by have := szR_12 (Nat.le_refl 973) hc12; omega) z.a z.v (fun out x k1 k2 k3 => ?_) (fun z _ _ => ?_)))
    · rw [if_pos rfl]
      have k3' : ∀ i, i < c' → Sz 16400000000 (x i) := fun i hi => (k3 i hi).mono (szR_12 (Nat.le_refl 973) hc12)
      exact W.bd (fit_err_run (S := ⟨P.sums.n, P.sums.m, P.sums.v, P.sums.q⟩) ⟨hP.hn, hP.hm, hP.hv, hP.hq⟩ hc12 k1 z k3' fun o ho => W.bd (fit_told_run k1 (by omega) ho (fun t1 t2 => h0 r c' x ok vb' hR hC hbl k2 t1 t2) (fun _ => h1 _ _ _ (by decide))))
    · rw [if_neg (by simp)]
      exact h1 _ _ _ (by decide)
  · rw [if_pos (by decide)]
    exact h1 _ _ _ (by decide)
/-! ### Sums as they are handed out -/
structure FitRep (f : api_Fit) (n : Nat) (A : Nat → Nat → Rat) (V : Nat → Rat) (q : Rat) (rows : Int) : Prop where
  hn : f.N = n
  mr : f.M.R = n
  mc : f.M.C = n
  ml : f.M.V.length = n * n
  hm : ∀ i k, i < n → k < n → valid (gd f.M.V (i * n + k)) ∧ ratOf (gd f.M.V (i * n + k)) = A i k
  vl : f.V.length = n
  hv : ∀ i, i < n → valid (gd f.V i) ∧ ratOf (gd f.V i) = V i
  hq : valid f.Q ∧ ratOf f.Q = q
  hr : f.Rows = rows
theorem FitRep.congr {f : api_Fit} {n : Nat} {A A' : Nat → Nat → Rat} {V V' : Nat → Rat} {q q' : Rat} {rows : Int} (h : FitRep f n A V q rows) (ha : ∀ i k, A i k = A' i k) (hv : ∀ i, V i = V' i) (hq : q = q') : FitRep f n A' V' q' rows :=
  ⟨h.hn, h.mr, h.mc, h.ml, fun i k hi hk => by rw [← ha]; exact h.hm i k hi hk, h.vl, fun i hi => by rw [← hv]; exact h.hv i hi, by rw [← hq]; exact h.hq, h.hr⟩
theorem FitRep.small {f : api_Fit} {n : Nat} {A : Nat → Nat → Rat} {V : Nat → Rat} {q : Rat} {rows : Int} (h : FitRep f n A V q rows) : Small 40 n A V q :=
  ⟨fun i k hi hk => (h.hm i k hi hk).2 ▸ (h.hm i k hi hk).1.sz, fun i hi => (h.hv i hi).2 ▸ (h.hv i hi).1.sz, h.hq.2 ▸ h.hq.1.sz⟩
theorem Small.mono {s t n : Nat} {A : Nat → Nat → Rat} {V : Nat → Rat} {q : Rat} (h : Small s n A V q) (hst : s ≤ t) : Small t n A V q :=
  ⟨fun i k hi hk => (h.a i k hi hk).mono hst, fun i hi => (h.v i hi).mono hst, h.q.mono hst⟩
theorem fit_out_run {S : fit_sums} {n : Nat} {A : Nat → Nat → Rat} {V : Nat → Rat} {q : Rat} {rows : Int} {Q : api_Fit × Int → Prop} (hS : Sums S n A V q) (hn : n ≤ 12) (h0 : ∀ f, FitRep f n A V q rows → Q (f, 0)) (h1 : ∀ f, Q (f, 3)) : (fit_sums_out.f S rows).run Q := by
  have hml := hS.hm.1
  unfold fit_sums_out.f
  rw [hS.hn]
  refine W.loop_c (fun s : api_Fit × Int × Int × Int × List api_Rat × List api_Rat × api_Rat × Int × Int => ∃ i : Nat, s.2.2.2.2.2.2.2.2 = i ∧ i ≤ n ∧ s.2.1 = n ∧ s.2.2.1 = n ∧ s.2.2.2.1 = n ∧ s.2.2.2.2.2.2.2.1 = rows ∧ s.2.2.2.2.1.length = i * n ∧ ∀ a k, a < i → k < n → valid (gd s.2.2.2.2.1 (a * n + k)) ∧ ratOf (gd s.2.2.2.2.1 (a * n + k)) = A a k) (fun s => n - s.2.2.2.2.2.2.2.2.toNat) ⟨0, rfl, Nat.zero_le _, rfl, rfl, rfl, rfl, by simp, fun a k ha => by omega⟩ ?_
  rintro ⟨F, _, _, _, mv, v, q', _, _⟩ P ⟨i, rfl, hi, rfl, rfl, rfl, rfl, k1, k2⟩ hgo hbrk hout
  simp only at k1 k2 hgo ⊢
  unfold fit_sums_out.l1
  simp only [gi_gd, hml]
  refine W.run_if (fun c => ?_) (fun c => hbrk _ ?_)
  · have hin : i < n := by omega
    have hmul : i * n ≤ 12 * 12 := Nat.mul_le_mul (by omega) hn
    refine W.req_i (by omega) (W.bd (num_Outs_run (hS.hm.2 i hin) (by omega) (fun t => ?_) (fun t => ?_)))
    · rw [if_pos rfl]
      have tl := tolds_len n (A i)
      refine W.req_i (by simp only [tl, k1]; omega) (hgo _ ⟨i + 1, by simp, by omega, rfl, rfl, rfl, rfl, ?_, fun a k ha hk => ?_⟩ (by simp; omega))
      · simp only [List.length_append, tl, k1, Nat.add_mul, Nat.one_mul]
      · simp only
        rw [gd_app, k1]
        by_cases e : a < i
        · rw [if_pos (at_lt e hk)]; exact k2 a k e hk
        · obtain rfl : a = i := by omega
          rw [if_neg (by omega), show a * n + k - a * n = k by omega, tolds_gd hk]
          exact toldR_valid (t k hk)
    · rw [if_neg (by simp)]
      exact hout _ (h1 _)
  obtain rfl : i = n := by omega
  unfold fit_sums_out.j1
  refine W.bd (num_Outs_run hS.hv (by omega) (fun t => W.bd (num_Out_run hS.hq ?_)) (fun t => W.bd (num_Out_run hS.hq ?_)))
  · rw [if_pos rfl]
    refine W.run_if (fun t2 => h0 _ ⟨rfl, rfl, rfl, k1, fun a k ha hk => k2 a k ha hk, tolds_len _ _, fun a ha => ?_, toldR_valid t2, rfl⟩) (fun _ => h1 _)
    simp only
    rw [tolds_gd ha]
    exact toldR_valid (t a ha)
  · rw [if_neg (by simp)]
    exact h1 _
section
variable {f : api_Fit} {n : Nat} {A : Nat → Nat → Rat} {V : Nat → Rat} {q : Rat} {rows : Int}
theorem FitRep.ok (h : FitRep f n A V q rows) (hn : n ≤ 12) : matOk f.M := by
  have a := h.mr
  have b := h.mc
  refine ⟨by omega, by omega, by rw [a, b, h.ml, Int.natCast_mul], (all_valid_iff _).2 fun k hk => ?_⟩
  rw [h.ml] at hk
  have hn0 : 0 < n := Nat.pos_of_ne_zero fun e => by rw [e] at hk; simp at hk
  have h1 := Nat.div_lt_of_lt_mul hk
  have h2 := Nat.mod_lt k hn0
  have := (h.hm (k / n) (k % n) h1 h2).1
  rwa [Nat.mul_comm, Nat.div_add_mod] at this
theorem fit_check_run {Q : Int → Prop} (h : FitRep f n A V q rows) (hn : n ≤ 12) (hr : 0 ≤ rows ∧ rows ≤ 1000000000) (h0 : Q 0) : (fit_check.f f).run Q := by
  have ok := h.ok hn
  have hl := h.ml
  have hvl := h.vl
  have hmul : n * n ≤ 12 * 12 := Nat.mul_le_mul hn hn
  unfold fit_check.f
  refine W.bd (mat_Validate_run (by omega) (fun _ => ?_) (fun c => absurd ok c))
  rw [if_neg (by decide), if_neg (by rw [h.mr, h.hn]; simp), if_neg (by rw [h.mc, h.hn]; simp), if_neg (by rw [h.hn]; omega)]
  refine W.bd (num_AllValid_run (by omega) ?_)
  rw [if_pos (decide_eq_true ((all_valid_iff _).2 fun k hk => (h.hv k (by omega)).1))]
  refine W.bd (num_Valid_run ?_)
  rw [if_pos (decide_eq_true h.hq.1), h.hr, if_neg (by omega), if_neg (by omega)]
  exact h0
theorem fit_of_run {Q : fit_sums → Prop} (h : FitRep f n A V q rows) (hn : n ≤ 12) (H : ∀ S, Sums S n A V q → Q S) : (fit_of.f f).run Q := by
  have hl := h.ml
  have hvl := h.vl
  unfold fit_of.f
  refine W.bd (num_In_run hvl (by omega) h.hv fun v hv => W.bd (num_Of_run h.hq.1 fun q' hq => ?_))
  rw [h.hq.2] at hq
  rw [h.hn]
  refine W.loop_c (fun s : Int × List (List num_Q) × List num_Q × num_Q × Int => ∃ i : Nat, s.2.2.2.2 = i ∧ i ≤ n ∧ s.1 = n ∧ QM s.2.1 i n A ∧ s.2.2.1 = v ∧ s.2.2.2.1 = q') (fun s => n - s.2.2.2.2.toNat) ⟨0, rfl, Nat.zero_le _, rfl, ⟨rfl, fun i hi => by omega⟩, rfl, rfl⟩ ?_
  rintro ⟨_, m, _, _, _⟩ P ⟨i, rfl, hi, rfl, h1, rfl, rfl⟩ hgo hbrk hout
  simp only at h1 hv hq hgo ⊢
  have hml := h1.1
  unfold fit_of.l1
  rw [h.hn]
  refine W.run_if (fun c1 => ?_) (fun c1 => hbrk _ ?_)
  · have hir : i < n := by omega
    have hp := mul_in (a := (i : Int)) (b := (n : Int)) (by omega) (by omega)
    have hp2 := mul_in (a := (i : Int) + 1) (b := (n : Int)) (by omega) (by omega)
    refine W.req_i (by show _ ∧ _; omega) (W.req_i (by show _ ∧ _; omega) (W.req_i (row_in hl hir) ?_))
    rw [cut_eq]
    refine W.bd (num_In_run (n := n) (f := A i) (cut_len hl hir) (by omega) (fun k hk => ?_) fun ro hro => W.req_i (by omega) (hgo _ ⟨i + 1, by simp, by omega, rfl, ⟨by simp [hml], fun j hj => ?_⟩, rfl, rfl⟩ (by simp; omega)))
    · rw [gd_cut _ _ _ _ hk]; exact h.hm i k hir hk
    · simp only
      rw [gd_app, hml]
      by_cases e : j < i
      · rw [if_pos e]; exact h1.2 j e
      · obtain rfl : j = i := by omega
        rw [if_neg (by omega), Nat.sub_self]; exact hro
  · obtain rfl : i = n := by omega
    exact H _ ⟨rfl, h1, hv, hq⟩
theorem fit_Add_run {row : List api_Rat} {v : api_Rat} {R : Nat → Rat} {y : Rat} {Q : api_Fit × Int → Prop} (h : FitRep f n A V q rows) (hn : n ≤ 12) (hr : 0 ≤ rows ∧ rows < 1000000000) (hl : row.length = n) (vr : ∀ k, k < n → valid (gd row k) ∧ ratOf (gd row k) = R k) (vv : valid v ∧ ratOf v = y)
    (h0 : ∀ g, FitRep g n (fun i k => A i k + R i * R k) (fun i => V i + R i * y) (q + y * y) (rows + 1) → Q (g, 0)) (h1 : ∀ g, Q (g, 3)) : (fit_Add.f f row v).run Q := by
  unfold fit_Add.f
  refine W.bd (fit_check_run h hn (by omega) ?_)
  rw [if_neg (by decide)]
  refine W.bd (num_AllValid_run (by omega) ?_)
  rw [if_pos (decide_eq_true ((all_valid_iff _).2 fun k hk => (vr k (by omega)).1))]
  refine W.bd (num_Valid_run ?_)
  rw [if_pos (decide_eq_true vv.1), if_neg (by rw [h.hn]; omega), if_neg (by rw [h.hr]; omega)]
  have z := h.small
  refine W.bd (fit_of_run h hn fun S hS => W.bd (num_In_run hl (by omega) vr fun ro hro => W.bd (num_Of_run vv.1 fun d hd => ?_)))
  rw [vv.2] at hd
  rw [h.hr]
  exact W.bd (fit_sums_add_run (S := ⟨S.n, S.m, S.v, S.q⟩) (n := n) (s := 40) (t := 40) hS.hn (by omega) hS.hm hS.hv hS.hq hro hd (by omega) (by omega) z.a z.v z.q (fun i hi => (vr i hi).2 ▸ (vr i hi).1.sz) (vv.2 ▸ vv.1.sz) fun S' k1 k2 k3 k4 => W.req_i (by show _ ∧ _; omega) (W.bd (fit_out_run (S := ⟨S'.n, S'.m, S'.v, S'.q⟩) ⟨k1, k2, k3, k4⟩ hn h0 h1)))
theorem errQ_congr {x x' : Nat → Rat} (h : ∀ i, i < n → x i = x' i) : errQ n A V q x = errQ n A V q x' := by
  unfold errQ
  rw [sm_congr (f := fun i => V i * x i) (g := fun i => V i * x' i) fun i hi => by rw [h i hi], sm_congr (f := fun i => x i * sm n (fun k => A i k * x k)) (g := fun i => x' i * sm n (fun k => A i k * x' k)) fun i hi => by
    rw [h i hi, sm_congr (f := fun k => A i k * x k) (g := fun k => A i k * x' k) fun k hk => by rw [h k hk]]]
theorem fit_Answer_run {x : Nat → Rat} {Q : List api_Rat × api_Rat × Int → Prop} (h : FitRep f n A V q rows) (hn : n ≤ 12) (hr : 0 ≤ rows ∧ rows ≤ 1000000000) (hx : Sol n A V x) (t1 : allTold n x) (t2 : (toldR (errQ n A V q x)).2 = true) (h0 : Q (tolds n x, (toldR (errQ n A V q x)).1, 0)) : (fit_Answer.f f).run Q := by
  have z := h.small
  unfold fit_Answer.f
  refine W.bd (fit_check_run h hn hr ?_)
  rw [if_neg (by decide)]
  refine W.bd (fit_of_run h hn fun S hS => W.bd (fit_solve_run hS.hm hS.hv (by omega) (by have := szR_12 (show 40 ≤ 973 by decide) hn; omega) z.a z.v (fun out x' k1 k2 k3 => ?_) (fun u k1 k2 => ?_)))
  · rw [if_pos rfl]
    have e : ∀ i, i < n → x' i = x i := (hx x').1 ((k2 x').2 fun i _ => rfl)
    have k3' : ∀ i, i < n → Sz 16400000000 (x' i) := fun i hi => (k3 i hi).mono (szR_12 (show 40 ≤ 973 by decide) hn)
    refine W.bd (fit_err_run (S := ⟨S.n, S.m, S.v, S.q⟩) ⟨hS.hn, hS.hm, hS.hv, hS.hq⟩ hn k1 (z.mono (by decide)) k3' fun o ho => W.bd (fit_told_run k1 (by omega) ho (fun _ _ => ?_) (fun c => absurd ⟨fun i hi => ?_, ?_⟩ c)))
    · rw [tolds_congr e, errQ_congr e]; exact h0
    · rw [e i hi]; exact t1 i hi
    · rw [errQ_congr e]; exact t2
  · obtain ⟨g, hg, hu⟩ := k1
    have s1 := (hx x).2 fun i _ => rfl
    have s2 := (hx (fun i => x i + u i)).1 fun i hi => by
      have a := s1 i hi
      have b := k2 i hi
      unfold dz at a b ⊢
      rw [sm_congr (g := fun j => A i j * x j + A i j * u j) fun j _ => by grind, sm_add, a, b, Rat.add_zero]
    have := s2 g hg
    exact absurd (show u g = 0 by grind) hu
end
/-! ### The law -/
theorem law27_same_refl {l : List api_Rat} {Q : Bool → Prop} (H : Q true) : (law27_same.f l l).run Q := by
  unfold law27_same.f
  rw [if_neg (by simp)]
  refine W.loop_c (fun p => ∃ i : Nat, p = i ∧ i ≤ l.length) (fun p => l.length - p.toNat) ⟨0, rfl, Nat.zero_le _⟩ ?_
  rintro _ P ⟨i, rfl, hi⟩ hgo hbrk hout
  unfold law27_same.l1
  refine W.run_if (fun c => W.req_i (by omega) (W.req_i (by omega) ?_)) (fun c => hbrk _ H)
  rw [if_pos (by simp)]
  exact hgo _ ⟨i + 1, by simp, by omega⟩ (by omega)
theorem law27_FitRows_run {m : api_Mat} {b : List api_Rat} (hl : m.V.length ≤ 281474976710656) (hb : b.length ≤ 281474976710656) : (law27_FitRows.f m b).run (fun b => b = true) := by
  unfold law27_FitRows.f
  refine W.bd (fit_Least_run hl hb (fun l r e he => ?_) (fun r c x ok vb hR hC hbl hx t1 t2 => ?_))
  · rw [if_pos he]
    exact W.bd (law27_known_run rfl)
  rw [if_neg (by simp)]
  refine W.run_if (fun _ => W.bd (law27_known_run rfl)) (fun _ => W.bd (ref04_Validate_run hl (fun _ => ?_) (fun h => absurd ok h)))
  rw [if_neg (by decide), if_neg (by omega)]
  obtain ⟨hml, hv⟩ := ok.at hR hC
  have o1 := ok.1
  have o2 := ok.2.1
  have hr12 : r ≤ 12 := by omega
  have hc12 : c ≤ 12 := by omega
  -- what is left of the sums
  let B : Nat → Nat → Nat → Rat := fun i a k => gA m.V c r a k - gA m.V c i a k
  let D : Nat → Nat → Rat := fun i a => gV m.V b c r a - gV m.V b c i a
  let E : Nat → Rat := fun i => gq b r - gq b i
  -- no rows
  have h0 : ∀ (Q : api_Fit × Int → Prop), (∀ f, FitRep f c (B r) (D r) (E r) 0 → Q (f, 0)) → (∀ f, Q (f, 3)) → (fit_From.f ⟨0, m.C, []⟩ []).run Q := by
    intro Q q0 q1
    have ok0 : matOk ⟨0, m.C, []⟩ := ⟨by show (0 : Int) ≤ 0 ∧ (0 : Int) ≤ 12; decide, by show 0 ≤ m.C ∧ m.C ≤ 12; omega, by simp, fun r h => absurd h (by simp)⟩
    unfold fit_From.f
    refine W.bd (fit_known_run (by simp) (by simp) (fun _ _ => ?_) (fun h => absurd ⟨ok0, fun r h => absurd h (by simp)⟩ h))
    rw [if_neg (by decide), if_neg (by simp)]
    refine W.bd (fit_made_run (r := 0) (c := c) ok0 rfl hC rfl (fun k hk => by omega) fun P hP => W.bd (fit_out_run (S := ⟨P.sums.n, P.sums.m, P.sums.v, P.sums.q⟩) ⟨hP.hn, hP.hm, hP.hv, hP.hq⟩ hc12 (fun f hf => q0 _ (hf.congr (fun i k => ?_) (fun i => ?_) ?_)) q1))
    · simp only [B]; rw [Rat.sub_self]; rfl
    · simp only [D]; rw [Rat.sub_self]; rfl
    · simp only [E]; rw [Rat.sub_self]; rfl
  -- the loop
  have go : ∀ f e, (e = 0 → FitRep f c (B r) (D r) (E r) 0) → (e = 0 ∨ e = 3) → (W.req (I64 (m.R - 1)) (W.bind (W.loop (fun (s : api_Fit × Int × Int) => law27_FitRows.l1 m b s.1 s.2.1 s.2.2) (f, e, (m.R - 1))) (Lp.on (fun s => law27_FitRows.j1 (tolds c x, (toldR (errQ c (gA m.V c r) (gV m.V b c r) (gq b r) x)).1, 0) s.1 s.2.1) (fun r => W.ret r)))).run (fun b => b = true) := by
    intro f e hf he
    refine W.req_i (by show _ ∧ _; omega) ?_
    refine W.loop_c (fun s : api_Fit × Int × Int => ∃ i : Nat, s.2.2 = (i : Int) - 1 ∧ i ≤ r ∧ (s.2.1 = 0 → FitRep s.1 c (B i) (D i) (E i) ((r : Int) - i)) ∧ (s.2.1 = 0 ∨ s.2.1 = 3)) (fun s => (s.2.2 + 1).toNat) ⟨r, by simp only; omega, Nat.le_refl _, by simpa using hf, he⟩ ?_
    rintro ⟨g, e, _⟩ P ⟨i, rfl, hi, h1, h2⟩ hgo hbrk hout
    simp only at h1 h2 hgo ⊢
    unfold law27_FitRows.l1
    have done : i = 0 ∨ e ≠ 0 → (law27_FitRows.j1 (tolds c x, (toldR (errQ c (gA m.V c r) (gV m.V b c r) (gq b r) x)).1, 0) g e).run (fun b => b = true) := by
      intro hd
      unfold law27_FitRows.j1
      refine W.run_if (fun ne => W.run_if (fun _ => W.bd (law27_known_run rfl)) (fun n3 => absurd h2 (by omega))) (fun n0 => ?_)
      have e0 : e = 0 := by omega
      obtain rfl : i = 0 := by omega
      have k := (h1 e0).congr (A' := gA m.V c r) (V' := gV m.V b c r) (q' := gq b r) (fun i k => by simp only [B]; show _ - (0 : Rat) = _; grind) (fun i => by simp only [D]; show _ - (0 : Rat) = _; grind) (by simp only [E]; show _ - (0 : Rat) = _; grind)
      refine W.bd (fit_Answer_run k hc12 (by omega) hx t1 t2 ?_)
      rw [if_pos rfl]
      refine W.bd (law27_same_refl ?_)
      rw [if_pos rfl, if_pos (by simp)]
      exact W.bd (law27_known_run rfl)
    refine W.run_if (fun c1 => W.run_if (fun c2 => ?_) (fun c2 => hbrk _ (done (.inr c2)))) (fun c1 => hbrk _ (done (.inl (by omega))))
    obtain ⟨j, rfl⟩ : ∃ j, i = j + 1 := ⟨i - 1, by omega⟩
    have ej : (((j + 1 : Nat) : Int) - 1) = (j : Int) := by omega
    rw [ej, hC]
    have hjr : j < r := by omega
    have hp := mul_in (a := (j : Int)) (b := (c : Int)) (by omega) (by omega)
    have hp2 := mul_in (a := (j : Int) + 1) (b := (c : Int)) (by omega) (by omega)
    refine W.req_i (by show _ ∧ _; omega) (W.req_i (by show _ ∧ _; omega) (W.req_i (by show _ ∧ _; omega) (W.req_i (row_in hml hjr) (W.req_i (by omega) ?_))))
    rw [cut_eq, gi_gd]
    have k := h1 c2
    have step : ∀ (g' : api_Fit) (e' : Int), (e' = 0 → FitRep g' c (B j) (D j) (E j) ((r : Int) - j)) → (e' = 0 ∨ e' = 3) → P (.go (g', e', (j : Int) - 1)) := fun g' e' a1 a2 => hgo _ ⟨j, rfl, by omega, a1, a2⟩ (by simp only; omega)
    refine W.bd (fit_Add_run (R := mxv m.V c j) (y := ratOf (gd b j)) k hc12 (by omega) (cut_len hml hjr) (fun a ha => ?_) ⟨vb j hjr, rfl⟩ (fun g' hg' => step _ _ (fun _ => ?_) (.inl rfl)) (fun g' => step _ _ (fun h => absurd h (by show ¬ (3 : Int) = 0; decide)) (.inr rfl)))
    · rw [gd_cut _ _ _ _ ha]; exact ⟨hv j a hjr ha, rfl⟩
    · have er : ((r : Int) - ((j + 1 : Nat) : Int) + 1) = (r : Int) - j := by omega
      rw [er] at hg'
      refine hg'.congr (fun a k => ?_) (fun a => ?_) ?_
      · simp only [B, gA, sm]; grind
      · simp only [D, gV, sm]; grind
      · simp only [E, gq, sm]; grind
  exact W.bd (h0 _ (fun f hf => go f 0 (fun _ => hf) (.inl rfl)) (fun f => go f 3 (fun h => absurd h (by decide)) (.inr rfl)))
end Go.Proofs.Ytlmpoindlejefaa.E
