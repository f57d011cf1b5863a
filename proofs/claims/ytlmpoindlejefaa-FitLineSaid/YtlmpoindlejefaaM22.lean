/- The line with the least error: the reference, the example, the law. -/
import Derived.Test.YtlmpoindlejefaaM21
set_option linter.unusedVariables false
set_option linter.unusedSimpArgs false
namespace Go.Proofs.Ytlmpoindlejefaa.E
open Go Go.RowKit

theorem ref01_Rats_two {a b : ref01_Q} {x y : Rat} {Q : List api_Rat × Bool → Prop} (ha : RRep a x) (hb : RRep b y) (H : Q (if (toldR x).2 = true ∧ (toldR y).2 = true then ([(toldR x).1, (toldR y).1], true) else ([], false))) : (ref01_Rats.f [a, b]).run Q := by
  unfold ref01_Rats.f
  refine W.loop_c (fun s : List api_Rat × Int => s = ([], 0) ∨ s = ([(toldR x).1], 1) ∧ (toldR x).2 = true ∨ s = ([(toldR x).1, (toldR y).1], 2) ∧ (toldR x).2 = true ∧ (toldR y).2 = true) (fun s => 2 - s.2.toNat) (.inl rfl) ?_
  rintro s P hs hgo hbrk hout
  unfold ref01_Rats.l1
  rcases hs with rfl | ⟨rfl, h1⟩ | ⟨rfl, h1, h2⟩
  · rw [if_pos (by show (0 : Int) < 2; decide)]
    refine W.req_i (by show (0 : Int) ≤ 0 ∧ (0 : Int) < 2; decide) (W.bd (ref01_Rat_run (x := x) ha (W.run_if (fun c => W.req_i (by decide) (hgo _ (.inr (.inl ⟨rfl, c⟩)) (by show 1 < 2; decide))) (fun c => hout _ ?_))))
    rwa [if_neg (fun h => c h.1)] at H
  · rw [if_pos (by show (1 : Int) < 2; decide)]
    refine W.req_i (by show (0 : Int) ≤ 1 ∧ (1 : Int) < 2; decide) (W.bd (ref01_Rat_run (x := y) hb (W.run_if (fun c => W.req_i (by simp) (hgo _ (.inr (.inr ⟨rfl, h1, c⟩)) (by simp))) (fun c => hout _ ?_))))
    rwa [if_neg (fun h => c h.2)] at H
  · rw [if_neg (by show ¬ (2 : Int) < 2; decide)]
    refine hbrk _ ?_
    rwa [if_pos ⟨h1, h2⟩] at H
section
variable {x y : List api_Rat} {Q : api_Rat × api_Rat × Int → Prop}
theorem ref27_Line_run (lx : x.length ≤ 281474976710656) (ly : y.length ≤ 281474976710656) (H : Q (lineSpec x y)) : (ref27_Line.f x y).run Q := by
  unfold lineSpec at H
  unfold ref27_Line.f
  refine W.bd (ref01_Are_run lx (W.run_if (fun c => ?_) (fun c => by
    have c := of_decide_eq_false (Bool.eq_false_iff.2 c)
    rwa [if_pos c] at H)))
  have vx := of_decide_eq_true c
  rw [if_neg (fun h => h vx)] at H
  refine W.bd (ref01_Are_run ly (W.run_if (fun c => ?_) (fun c => by
    have c := of_decide_eq_false (Bool.eq_false_iff.2 c)
    rwa [if_pos c] at H)))
  have vy := of_decide_eq_true c
  rw [if_neg (fun h => h vy)] at H
  refine W.run_if (fun c => by rwa [if_pos c] at H) (fun c1 => ?_)
  rw [if_neg c1] at H
  refine W.run_if (fun c => by rwa [if_pos c] at H) (fun c2 => ?_)
  rw [if_neg c2] at H
  refine W.run_if (fun c => by rwa [if_pos c] at H) (fun c3 => ?_)
  rw [if_neg c3] at H
  have vx := (all_valid_iff x).1 vx
  have vy := (all_valid_iff y).1 vy
  have hxy : x.length = y.length := by omega
  generalize hX : (fun i => ratOf (gd x i)) = X at H
  generalize hY : (fun i => ratOf (gd y i)) = Y at H
  have eX : ∀ i, ratOf (gd x i) = X i := fun i => congrFun hX i
  have eY : ∀ i, ratOf (gd y i) = Y i := fun i => congrFun hY i
  have sX : ∀ i, i < x.length → Sz 40 (X i) := fun i hi => eX i ▸ (vx i hi).sz
  have sY : ∀ i, i < x.length → Sz 40 (Y i) := fun i hi => eY i ▸ (vy i (by omega)).sz
  refine W.loop_c (fun s : ref01_Q × ref01_Q × ref01_Q × ref01_Q × Int => ∃ i : Nat, s.2.2.2.2 = i ∧ i ≤ x.length ∧ RRep s.1 (sm i X) ∧ RRep s.2.1 (sm i Y) ∧ RRep s.2.2.1 (sm i (fun j => X j * X j)) ∧ RRep s.2.2.2.1 (sm i (fun j => X j * Y j))) (fun s => x.length - s.2.2.2.2.toNat) ⟨0, rfl, Nat.zero_le _, RRep.zero, RRep.zero, RRep.zero, RRep.zero⟩ ?_
  rintro ⟨sx, sy, sxx, sxy, _⟩ P ⟨i, rfl, hi, h1, h2, h3, h4⟩ hgo hbrk hout
  simp only at h1 h2 h3 h4 hgo ⊢
  have z1 : Sz 2625 (sm i X) := (Sz.sm fun j hj => sX j (by omega)).mono (by omega)
  have z2 : Sz 2625 (sm i Y) := (Sz.sm fun j hj => sY j (by omega)).mono (by omega)
  have z3 : Sz 5185 (sm i (fun j => X j * X j)) := (Sz.sm fun j hj => (sX j (by omega)).mul (sX j (by omega))).mono (by omega)
  have z4 : Sz 5185 (sm i (fun j => X j * Y j)) := (Sz.sm fun j hj => (sX j (by omega)).mul (sY j (by omega))).mono (by omega)
  unfold ref27_Line.l1
  simp only [gi_gd]
  refine W.run_if (fun c => ?_) (fun c => hbrk _ ?_)
  · have ox := sX i (by omega)
    have oy := sY i (by omega)
    have ex := eX i
    have ey := eY i
    unfold ratOf at ex ey
    have vxi := vx i (by omega)
    have vyi := vy i (by omega)
    obtain ⟨a1, a2, a3, a4, _⟩ := vxi
    obtain ⟨b1, b2, b3, b4, _⟩ := vyi
    refine W.req_i (by omega) (W.req_i (by omega) (W.bd (ref01_Of_run (by show _ ∧ _; omega) (by show _ ∧ _; omega) (by omega) fun a ha => W.bd (ref01_Of_run (by show _ ∧ _; omega) (by show _ ∧ _; omega) (by omega) fun b hb => ?_))))
    rw [ex] at ha
    rw [ey] at hb
    refine W.bd (ref01_Add_run h1 ha (z1.ok (by omega)) (ox.ok (by omega)) fun p hp => W.bd (ref01_Add_run h2 hb (z2.ok (by omega)) (oy.ok (by omega)) fun q hq => W.bd (ref01_Mul_run ha ha (ox.ok (by omega)) (ox.ok (by omega)) fun u hu => W.bd (ref01_Add_run h3 hu (z3.ok (by omega)) ((ox.mul ox).ok (by omega)) fun v hv => W.bd (ref01_Mul_run ha hb (ox.ok (by omega)) (oy.ok (by omega)) fun w hw => W.bd (ref01_Add_run h4 hw (z4.ok (by omega)) ((ox.mul oy).ok (by omega)) fun t ht => hgo _ ⟨i + 1, by simp, by omega, hp, hq, hv, ht⟩ (by simp; omega)))))))
  obtain rfl : i = x.length := by omega
  unfold ref27_Line.j1
  have zn : Sz 7 (x.length : Rat) := Sz.nat (by omega) (by omega)
  unfold lineOf at H
  simp only at H ⊢
  refine W.bd (ref01_Int_run (by show _ ∧ _; omega) fun n hn => ?_)
  rw [Rat.intCast_natCast] at hn
  have zd := (zn.mul z3).sub (z1.mul z1)
  refine W.bd (ref01_Mul_run hn h3 (zn.ok (by omega)) (z3.ok (by omega)) fun p hp => W.bd (ref01_Mul_run h1 h1 (z1.ok (by omega)) (z1.ok (by omega)) fun q hq => W.bd (ref01_Sub_run hp hq ((zn.mul z3).ok (by omega)) ((z1.mul z1).ok (by omega)) fun d hd => W.bd (ref01_IsZero_run hd (W.run_if (fun c => ?_) (fun c => ?_))))))
  · rw [if_pos (of_decide_eq_true c)] at H
    exact H
  have hd0 := of_decide_eq_false (Bool.eq_false_iff.2 c)
  rw [if_neg hd0] at H
  have hn0 : (x.length : Rat) ≠ 0 := by
    intro hn
    apply hd0
    have : x.length = 0 := by simpa using hn
    rw [this]
    simp only [sm]
    grind
  have zs := ((zn.mul z4).sub (z1.mul z2)).div zd hd0
  have zh := z2.sub (zs.mul z1)
  refine W.bd (ref01_Mul_run hn h4 (zn.ok (by omega)) (z4.ok (by omega)) fun u hu => W.bd (ref01_Mul_run h1 h2 (z1.ok (by omega)) (z2.ok (by omega)) fun v hv => W.bd (ref01_Sub_run hu hv ((zn.mul z4).ok (by omega)) ((z1.mul z2).ok (by omega)) fun w hw => W.bd (ref01_Div_run hw hd (((zn.mul z4).sub (z1.mul z2)).ok (by omega)) (zd.ok (by omega)) hd0 fun s hs => W.bd (ref01_Mul_run hs h1 (zs.ok (by omega)) (z1.ok (by omega)) fun t ht => W.bd (ref01_Sub_run h2 ht (z2.ok (by omega)) ((zs.mul z1).ok (by omega)) fun e he => W.bd (ref01_Div_run he hn (zh.ok (by omega)) (zn.ok (by omega)) hn0 fun g hg => W.bd (ref01_Rats_two hs hg ?_))))))))
  unfold toldLine at H
  simp only at H
  split
  · rename_i hc
    rw [if_pos hc] at H
    rw [if_pos rfl]
    exact W.req_i (by simp) (W.req_i (by simp) H)
  · rename_i hc
    rw [if_neg hc] at H
    rw [if_neg (by simp)]
    exact H
end
theorem known_spec : lineSpec [⟨0, 1⟩, ⟨1, 1⟩, ⟨2, 1⟩] [⟨1, 1⟩, ⟨2, 1⟩, ⟨4, 1⟩] = (⟨3, 2⟩, ⟨5, 6⟩, 0) := by decide +kernel
theorem law27_known_run {Q : Bool → Prop} (H : Q true) : law27_known.f.run Q := by
  unfold law27_known.f
  refine W.req_i (by simp) (W.req_i (by simp) (W.bd (fit_Line_run (by simp) (by simp) ?_)))
  have e : lineSpec ([⟨0, 1⟩, ⟨1, 1⟩, ⟨2, 1⟩, ⟨4, 1⟩].take (3 : Int).toNat) ([⟨0, 1⟩, ⟨1, 1⟩, ⟨2, 1⟩, ⟨4, 1⟩].drop (1 : Int).toNat) = (⟨3, 2⟩, ⟨5, 6⟩, 0) := known_spec
  rw [e]
  exact H
theorem law27_FitLine_run {x y : List api_Rat} (lx : x.length ≤ 281474976710656) (ly : y.length ≤ 281474976710656) : (law27_FitLine.f x y).run (fun b => b = true) := by
  unfold law27_FitLine.f
  refine W.bd (fit_Line_run lx ly (W.bd (ref27_Line_run lx ly ?_)))
  rw [if_pos (by simp), if_pos (by simp), if_pos rfl]
  exact W.bd (law27_known_run rfl)
end Go.Proofs.Ytlmpoindlejefaa.E
