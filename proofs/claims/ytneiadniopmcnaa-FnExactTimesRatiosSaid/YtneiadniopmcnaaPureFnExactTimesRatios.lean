/-
  For all arguments, the program's TimesRatios returns what the reference's TimesRatios returns.
  Conditions: none beside the given statement's own.
-/
import Derived.Test.YtneiadniopmcnaaPFnExactTimesRatiosx4
set_option linter.unusedSimpArgs false
set_option linter.unusedVariables false
namespace Go.Proofs.Ytneiadniopmcnaa.Pure
open Go.RowKit Go.Proofs.Ytneiadniopmcnaa.PFnExactTimesRatios Go.Proofs.YtneiadniopmcnaaW.PrintWords Go.Proofs.YtneiadniopmcnaaW.PrintLast Go.Proofs.YtneiadniopmcnaaW.PrintMore

theorem wrap_id {x : Int} (h1 : -9223372036854775808 ≤ x) (h2 : x < 9223372036854775808) : wrap64 x = x := by unfold wrap64; omega
theorem rd_nat (l : List Int) (i : Nat) (h : i < l.length) : rd l (i : Int) = l[i] := by
  unfold rd; rw [Int.toNat_natCast, List.getD_eq_getElem?_getD, List.getElem?_eq_getElem h]; rfl
theorem wf64 {x : Int} (h : (Lit.int .i64 x).wf = true) : -9223372036854775808 ≤ x ∧ x < 9223372036854775808 := by
  have h1 : IntKind.i64.min = -9223372036854775808 := by decide
  have h2 : IntKind.i64.max = 9223372036854775807 := by decide
  simp only [Lit.wf, h1, h2, Bool.and_eq_true, decide_eq_true_eq] at h
  omega
theorem wf8 {x : Int} (h : (Lit.int .u8 x).wf = true) : 0 ≤ x ∧ x < 256 := by
  have h1 : IntKind.u8.min = 0 := by decide
  have h2 : IntKind.u8.max = 255 := by decide
  simp only [Lit.wf, h1, h2, Bool.and_eq_true, decide_eq_true_eq] at h
  omega
theorem set_take (l x : List Int) (i : Nat) (h : i < l.length) (hx : x.length = l.length) (ht : x.take i = l.take i) : (x.set i l[i]).take (i + 1) = l.take (i + 1) := by
  apply List.ext_getElem?
  intro j
  simp only [List.getElem?_take, List.getElem?_set]
  have hj : (x.take i)[j]? = (l.take i)[j]? := by rw [ht]
  simp only [List.getElem?_take] at hj
  by_cases h1 : j < i + 1
  · rw [if_pos h1, if_pos h1]
    by_cases h2 : i = j
    · subst h2; rw [if_pos rfl, if_pos (by omega), List.getElem?_eq_getElem h]
    · rw [if_neg h2]; rw [if_pos (by omega), if_pos (by omega)] at hj; exact hj
  · rw [if_neg h1, if_neg h1]
theorem drop_eq_cons (l : List Int) (i : Nat) (h : i < l.length) : l.drop i = l[i] :: l.drop (i + 1) := List.drop_eq_getElem_cons h
theorem cons_iff {a b : Int} (e : a = b) (l x : List Int) : (a :: l = b :: x) ↔ l = x := by
  rw [e]
  exact ⟨fun h => (List.cons.inj h).2, fun h => by rw [h]⟩
theorem take_full (l x : List Int) (i : Nat) (hi : l.length ≤ i) (hx : x.length = l.length) (ht : x.take i = l.take i) : x = l := by
  rwa [List.take_of_length_le (by omega), List.take_of_length_le hi] at ht

theorem l1In_eq (a b c : Int) : spec_l1In.f a b c = some (decide (b ≤ a ∧ a ≤ c)) := by
  unfold spec_l1In.f
  by_cases h : a ≥ b
  · rw [if_pos h]; congr 1; by_cases h2 : a ≤ c <;> simp [h2] <;> omega
  · rw [if_neg h]; congr 1; simp; omega
theorem InRange_eq (a b c : Int) : impl_InRange.f a b c = some (decide (b ≤ a ∧ a ≤ c)) := by
  unfold impl_InRange.f
  by_cases h : b ≤ a
  · rw [if_pos h]; congr 1; by_cases h2 : a ≤ c <;> simp [h2] <;> omega
  · rw [if_neg h]; congr 1; simp; omega

theorem impl_gcd_l0 (b : Nat) : ∀ a : Nat, Ev (fun k => impl_gcd.l0 k (a : Int) (b : Int)) ((Nat.gcd a b : Nat) : Int) := by
  induction b using Nat.strongRecOn with
  | ind b ih =>
    intro a
    by_cases h : b = 0
    · subst h
      refine Ev.step (f := fun _ => some (a : Int)) (fun k => ?_) (by simpa using Ev.now (a : Int))
      simp only [impl_gcd.l0]
      rw [if_pos (by omega)]
    · have hg : Nat.gcd a b = Nat.gcd b (a % b) := by rw [Nat.gcd_comm a b, Nat.gcd_rec b a, Nat.gcd_comm]
      rw [hg]
      refine Ev.step (f := fun k => impl_gcd.l0 k (b : Int) ((a % b : Nat) : Int)) (fun k => ?_) (ih (a % b) (Nat.mod_lt _ (by omega)) b)
      simp only [impl_gcd.l0]
      rw [if_neg (by omega), Int.tmod_eq_emod_of_nonneg (by omega)]
      rfl

theorem spec_l4Gcd_l0 (b : Nat) : ∀ a : Nat, Ev (fun k => spec_l4Gcd.l0 k (a : Int) (b : Int)) ((Nat.gcd a b : Nat) : Int) := by
  induction b using Nat.strongRecOn with
  | ind b ih =>
    intro a
    by_cases h : b = 0
    · subst h
      refine Ev.step (f := fun _ => some (a : Int)) (fun k => ?_) (by simpa using Ev.now (a : Int))
      simp only [spec_l4Gcd.l0]
      rw [if_neg (by omega)]
    · have hg : Nat.gcd a b = Nat.gcd b (a % b) := by rw [Nat.gcd_comm a b, Nat.gcd_rec b a, Nat.gcd_comm]
      rw [hg]
      refine Ev.step (f := fun k => spec_l4Gcd.l0 k (b : Int) ((a % b : Nat) : Int)) (fun k => ?_) (ih (a % b) (Nat.mod_lt _ (by omega)) b)
      simp only [spec_l4Gcd.l0]
      rw [if_pos (by omega), if_neg (by omega), Int.tmod_eq_emod_of_nonneg (by omega)]
      rfl

theorem gcdI_ev (a b : Int) (ha : -9223372036854775808 < a) (ha' : a < 9223372036854775808) (hb : -9223372036854775808 < b) (hb' : b < 9223372036854775808) : Ev (fun k => impl_gcd.f k a b) ((Int.gcd a b : Nat) : Int) := by
  have h0 : Ev (fun k => impl_gcd.j0 k ((a.natAbs : Nat) : Int) b) ((Int.gcd a b : Nat) : Int) := by
    refine Ev.step (f := fun k => impl_gcd.j1 k ((a.natAbs : Nat) : Int) ((b.natAbs : Nat) : Int)) (fun k => ?_) (Ev.step (fun k => impl_gcd.j1.eq_2 _ _ _) (impl_gcd_l0 b.natAbs a.natAbs))
    simp only [impl_gcd.j0]
    by_cases h : b < 0
    · rw [if_pos h, wrap_id (by omega) (by omega), show -b = ((b.natAbs : Nat) : Int) by omega]
    · rw [if_neg h, show (b.natAbs : Int) = b by omega]
  unfold impl_gcd.f
  by_cases h : a < 0
  · simp only [if_pos h]
    rw [wrap_id (by omega) (by omega), show -a = ((a.natAbs : Nat) : Int) by omega]
    exact h0
  · simp only [if_neg h]
    rw [show (a.natAbs : Int) = a by omega] at h0
    exact h0
theorem absS (a : Int) (ha : -9223372036854775808 < a) (ha' : a < 9223372036854775808) : spec_Max.f a (wrap64 (-a)) = some ((a.natAbs : Nat) : Int) := by
  unfold spec_Max.f
  rw [wrap_id (by omega) (by omega)]
  by_cases h : -a > a
  · rw [if_pos h]; congr 1; omega
  · rw [if_neg h]; congr 1; omega
theorem gcdS_ev (a b : Int) (ha : -9223372036854775808 < a) (ha' : a < 9223372036854775808) (hb : -9223372036854775808 < b) (hb' : b < 9223372036854775808) : Ev (fun k => spec_l4Gcd.f k a b) ((Int.gcd a b : Nat) : Int) := by
  unfold spec_l4Gcd.f
  simp only [absS a ha ha', absS b hb hb', Option.bind_some]
  exact spec_l4Gcd_l0 b.natAbs a.natAbs
def isR (n d : Int) : Bool := decide ((-1000000000 ≤ n ∧ n ≤ 1000000000) ∧ (1 ≤ d ∧ d ≤ 1000000000) ∧ ((Int.gcd n d : Nat) : Int) = 1)
theorem isRI_ev (n d : Int) : Ev (fun k => impl_IsRatio.f k n d) (isR n d) := by
  unfold impl_IsRatio.f isR
  simp only [InRange_eq, Option.bind_some]
  by_cases c1 : -1000000000 ≤ n ∧ n ≤ 1000000000
  · by_cases c2 : 1 ≤ d ∧ d ≤ 1000000000
    · simp only [decide_eq_true c1, decide_eq_true c2, if_true]
      refine Ev.bind (gcdI_ev n d (by omega) (by omega) (by omega) (by omega)) ?_
      have e : (((Int.gcd n d : Nat) : Int) == 1) = decide ((-1000000000 ≤ n ∧ n ≤ 1000000000) ∧ (1 ≤ d ∧ d ≤ 1000000000) ∧ ((Int.gcd n d : Nat) : Int) = 1) := by
        rw [Bool.eq_iff_iff, beq_iff_eq, decide_eq_true_iff]
        exact ⟨fun h => ⟨c1, c2, h⟩, fun h => h.2.2⟩
      rw [e]
      exact Ev.now _
    · simp only [decide_eq_true c1, decide_eq_false c2, if_true, Bool.false_eq_true, if_false]
      rw [decide_eq_false fun h => c2 h.2.1]
      exact Ev.now _
  · simp only [decide_eq_false c1, Bool.false_eq_true, if_false]
    rw [decide_eq_false fun h => c1 h.1]
    exact Ev.now _
theorem isRS_ev (n d : Int) : Ev (fun k => spec_IsRatio.f k n d) (isR n d) := by
  unfold spec_IsRatio.f isR
  simp only [l1In_eq, Option.bind_some]
  by_cases c1 : -1000000000 ≤ n ∧ n ≤ 1000000000
  · by_cases c2 : 1 ≤ d ∧ d ≤ 1000000000
    · simp only [decide_eq_true c1, decide_eq_true c2, if_true]
      refine Ev.bind (gcdS_ev n d (by omega) (by omega) (by omega) (by omega)) ?_
      have e : (((Int.gcd n d : Nat) : Int) == 1) = decide ((-1000000000 ≤ n ∧ n ≤ 1000000000) ∧ (1 ≤ d ∧ d ≤ 1000000000) ∧ ((Int.gcd n d : Nat) : Int) = 1) := by
        rw [Bool.eq_iff_iff, beq_iff_eq, decide_eq_true_iff]
        exact ⟨fun h => ⟨c1, c2, h⟩, fun h => h.2.2⟩
      rw [e]
      exact Ev.now _
    · simp only [decide_eq_true c1, decide_eq_false c2, if_true, Bool.false_eq_true, if_false]
      rw [decide_eq_false fun h => c2 h.2.1]
      exact Ev.now _
  · simp only [decide_eq_false c1, Bool.false_eq_true, if_false]
    rw [decide_eq_false fun h => c1 h.1]
    exact Ev.now _
theorem isR_iff (n d : Int) : isR n d = true ↔ (-1000000000 ≤ n ∧ n ≤ 1000000000) ∧ (1 ≤ d ∧ d ≤ 1000000000) ∧ ((Int.gcd n d : Nat) : Int) = 1 := by
  unfold isR
  rw [decide_eq_true_iff]

def redOf (n d : Int) : Int × Int × Bool :=
  if isR (Int.tdiv n (if d < 0 then -((Int.gcd n d : Nat) : Int) else ((Int.gcd n d : Nat) : Int))) (Int.tdiv d (if d < 0 then -((Int.gcd n d : Nat) : Int) else ((Int.gcd n d : Nat) : Int))) = true then
    (Int.tdiv n (if d < 0 then -((Int.gcd n d : Nat) : Int) else ((Int.gcd n d : Nat) : Int)), Int.tdiv d (if d < 0 then -((Int.gcd n d : Nat) : Int) else ((Int.gcd n d : Nat) : Int)), true)
  else (0, 0, false)
theorem tdiv_le (n g : Int) : (Int.tdiv n g).natAbs ≤ n.natAbs := by
  rw [Int.natAbs_tdiv]
  exact Nat.div_le_self _ _
theorem gcd_small (n d : Int) (hd : d ≠ 0) (hd0 : -9223372036854775808 < d) (hd1 : d < 9223372036854775808) : 0 < ((Int.gcd n d : Nat) : Int) ∧ ((Int.gcd n d : Nat) : Int) < 9223372036854775808 := by
  have h1 : 0 < Int.gcd n d := by
    rcases Nat.eq_zero_or_pos (Int.gcd n d) with h | h
    · exact absurd (Int.gcd_eq_zero_iff.1 h).2 hd
    · exact h
  have h2 : Int.gcd n d ≤ d.natAbs := Nat.le_of_dvd (by omega) (by
    have := Int.gcd_dvd_right n d
    exact Int.natAbs_dvd_natAbs.2 this)
  omega
theorem redI_ev (n d : Int) (hd : d ≠ 0) (hn0 : -9223372036854775808 < n) (hn1 : n < 9223372036854775808) (hd0 : -9223372036854775808 < d) (hd1 : d < 9223372036854775808) : Ev (fun k => impl_reduced.f k n d) (redOf n d) := by
  have hg := gcd_small n d hd hd0 hd1
  unfold impl_reduced.f redOf
  refine Ev.bind (gcdI_ev n d hn0 hn1 hd0 hd1) ?_
  by_cases c : d < 0
  · simp only [if_pos c]
    have b1 := tdiv_le n (-((Int.gcd n d : Nat) : Int))
    have b2 := tdiv_le d (-((Int.gcd n d : Nat) : Int))
    have e1 : wrap64 (-((Int.gcd n d : Nat) : Int)) = -((Int.gcd n d : Nat) : Int) := wrap_id (by omega) (by omega)
    have e2 : wrap64 (Int.tdiv n (-((Int.gcd n d : Nat) : Int))) = Int.tdiv n (-((Int.gcd n d : Nat) : Int)) := wrap_id (by omega) (by omega)
    have e3 : wrap64 (Int.tdiv d (-((Int.gcd n d : Nat) : Int))) = Int.tdiv d (-((Int.gcd n d : Nat) : Int)) := wrap_id (by omega) (by omega)
    simp only [e1, e2, e3, if_neg (show ¬ (-((Int.gcd n d : Nat) : Int) = 0) by omega)]
    refine Ev.bind (isRI_ev _ _) ?_
    split <;> exact Ev.now _
  · simp only [if_neg c]
    have b1 := tdiv_le n ((Int.gcd n d : Nat) : Int)
    have b2 := tdiv_le d ((Int.gcd n d : Nat) : Int)
    have e2 : wrap64 (Int.tdiv n ((Int.gcd n d : Nat) : Int)) = Int.tdiv n ((Int.gcd n d : Nat) : Int) := wrap_id (by omega) (by omega)
    have e3 : wrap64 (Int.tdiv d ((Int.gcd n d : Nat) : Int)) = Int.tdiv d ((Int.gcd n d : Nat) : Int) := wrap_id (by omega) (by omega)
    simp only [e2, e3, if_neg (show ¬ (((Int.gcd n d : Nat) : Int) = 0) by omega)]
    refine Ev.bind (isRI_ev _ _) ?_
    split <;> exact Ev.now _
theorem makeS_j0 (n d : Int) (hd : 0 < d) (hn0 : -9223372036854775808 < n) (hn1 : n < 9223372036854775808) (hd1 : d < 9223372036854775808) : Ev (fun k => spec_l4Make.j0 k n d) (redOf n d) := by
  have hg := gcd_small n d (by omega) (by omega) hd1
  refine Ev.step (fun k => spec_l4Make.j0.eq_2 _ _ _) ?_
  unfold redOf
  refine Ev.bind (gcdS_ev n d hn0 hn1 (by omega) hd1) ?_
  have b1 := tdiv_le n ((Int.gcd n d : Nat) : Int)
  have b2 := tdiv_le d ((Int.gcd n d : Nat) : Int)
  have e2 : wrap64 (Int.tdiv n ((Int.gcd n d : Nat) : Int)) = Int.tdiv n ((Int.gcd n d : Nat) : Int) := wrap_id (by omega) (by omega)
  have e3 : wrap64 (Int.tdiv d ((Int.gcd n d : Nat) : Int)) = Int.tdiv d ((Int.gcd n d : Nat) : Int) := wrap_id (by omega) (by omega)
  simp only [e2, e3, if_neg (show ¬ (d < 0) by omega), if_neg (show ¬ (((Int.gcd n d : Nat) : Int) = 0) by omega)]
  refine Ev.bind (isRS_ev _ _) ?_
  split <;> exact Ev.now _
theorem redOf_neg (n d : Int) (hd : d < 0) : redOf (-n) (-d) = redOf n d := by
  unfold redOf
  simp only [Int.gcd_neg, Int.neg_gcd, if_pos hd, if_neg (show ¬ (-d < 0) by omega), Int.neg_tdiv, Int.tdiv_neg]
theorem makeS_ev (n d : Int) (hd : d ≠ 0) (hn0 : -9223372036854775808 < n) (hn1 : n < 9223372036854775808) (hd0 : -9223372036854775808 < d) (hd1 : d < 9223372036854775808) : Ev (fun k => spec_l4Make.f k n d) (redOf n d) := by
  unfold spec_l4Make.f
  simp only [if_neg hd]
  by_cases c : d < 0
  · simp only [if_pos c]
    rw [wrap_id (by omega) (by omega), wrap_id (by omega) (by omega), ← redOf_neg n d c]
    exact makeS_j0 (-n) (-d) (by omega) (by omega) (by omega) (by omega)
  · simp only [if_neg c]
    exact makeS_j0 n d (by omega) hn0 hn1 hd1
theorem redOf_valid (n d : Int) : redOf n d = (0, 0, false) ∨ ∃ a b, redOf n d = (a, b, true) ∧ isR a b = true := by
  unfold redOf
  generalize Int.tdiv n (if d < 0 then -((Int.gcd n d : Nat) : Int) else ((Int.gcd n d : Nat) : Int)) = a
  generalize Int.tdiv d (if d < 0 then -((Int.gcd n d : Nat) : Int) else ((Int.gcd n d : Nat) : Int)) = b
  by_cases h : isR a b = true
  · rw [if_pos h]; exact .inr ⟨a, b, rfl, h⟩
  · rw [if_neg h]; exact .inl rfl

theorem mul_bd {x y : Int} {A B : Nat} (hx : x.natAbs ≤ A) (hy : y.natAbs ≤ B) : (x * y).natAbs ≤ A * B := by
  rw [Int.natAbs_mul]
  exact Nat.mul_le_mul hx hy
theorem den_pos {b d : Int} (hb : 1 ≤ b) (hd : 1 ≤ d) : 0 < b * d := Int.mul_pos (by omega) (by omega)

def timesOf (a b c d : Int) : Int × Int × Bool := if isR a b = true ∧ isR c d = true then redOf (a * c) (b * d) else (0, 0, false)

theorem STimes_ev (a b c d : Int) : Ev (fun k => spec_TimesRatios.f k a b c d) (timesOf a b c d) := by
  unfold spec_TimesRatios.f timesOf
  refine Ev.bind (isRS_ev a b) ?_
  by_cases c1 : isR a b = true
  · simp only [c1, if_true, true_and]
    refine Ev.bind (isRS_ev c d) ?_
    by_cases c2 : isR c d = true
    · simp only [c2, if_true]
      have h1 := (isR_iff a b).1 c1
      have h2 := (isR_iff c d).1 c2
      have m1 := mul_bd (x := a) (y := d) (A := 1000000000) (B := 1000000000) (by omega) (by omega)
      have m2 := mul_bd (x := c) (y := b) (A := 1000000000) (B := 1000000000) (by omega) (by omega)
      have m3 := mul_bd (x := b) (y := d) (A := 1000000000) (B := 1000000000) (by omega) (by omega)
      have m4 := mul_bd (x := a) (y := c) (A := 1000000000) (B := 1000000000) (by omega) (by omega)
      have m5 := den_pos h1.2.1.1 h2.2.1.1
      have e1 : wrap64 (a * d) = a * d := wrap_id (by omega) (by omega)
      have e2 : wrap64 (c * b) = c * b := wrap_id (by omega) (by omega)
      have e3 : wrap64 (b * d) = b * d := wrap_id (by omega) (by omega)
      have e4 : wrap64 (a * d + c * b) = a * d + c * b := wrap_id (by omega) (by omega)
      have e5 : wrap64 (a * c) = a * c := wrap_id (by omega) (by omega)
      simp only [e1, e2, e3, e4, e5]
      exact Ev.bind (makeS_ev (a * c) (b * d) (by omega) (by omega) (by omega) (by omega) (by omega)) (Ev.now _)
    · simp only [if_neg c2]
      exact Ev.now _
  · simp only [if_neg c1]
    rw [if_neg fun h => c1 h.1]
    exact Ev.now _

theorem ITimes_ev (a b c d : Int) : Ev (fun k => impl_TimesRatios.f k a b c d) (timesOf a b c d) := by
  unfold impl_TimesRatios.f timesOf
  refine Ev.bind (isRI_ev a b) ?_
  by_cases c1 : isR a b = true
  · simp only [c1, if_true, true_and]
    refine Ev.bind (isRI_ev c d) ?_
    by_cases c2 : isR c d = true
    · simp only [c2, if_true]
      have h1 := (isR_iff a b).1 c1
      have h2 := (isR_iff c d).1 c2
      have m1 := mul_bd (x := a) (y := d) (A := 1000000000) (B := 1000000000) (by omega) (by omega)
      have m2 := mul_bd (x := c) (y := b) (A := 1000000000) (B := 1000000000) (by omega) (by omega)
      have m3 := mul_bd (x := b) (y := d) (A := 1000000000) (B := 1000000000) (by omega) (by omega)
      have m4 := mul_bd (x := a) (y := c) (A := 1000000000) (B := 1000000000) (by omega) (by omega)
      have m5 := den_pos h1.2.1.1 h2.2.1.1
      have e1 : wrap64 (a * d) = a * d := wrap_id (by omega) (by omega)
      have e2 : wrap64 (c * b) = c * b := wrap_id (by omega) (by omega)
      have e3 : wrap64 (b * d) = b * d := wrap_id (by omega) (by omega)
      have e4 : wrap64 (a * d + c * b) = a * d + c * b := wrap_id (by omega) (by omega)
      have e5 : wrap64 (a * c) = a * c := wrap_id (by omega) (by omega)
      simp only [e1, e2, e3, e4, e5]
      exact Ev.bind (redI_ev (a * c) (b * d) (by omega) (by omega) (by omega) (by omega) (by omega)) (Ev.now _)
    · simp only [if_neg c2]
      exact Ev.now _
  · simp only [if_neg c1]
    rw [if_neg fun h => c1 h.1]
    exact Ev.now _

theorem FnExactTimesRatios : ∀ (a b c d : Int), (Lit.int .i64 a).wf = true → (Lit.int .i64 b).wf = true → (Lit.int .i64 c).wf = true → (Lit.int .i64 d).wf = true → ∃ k, laws_FnExactTimesRatios.f k a b c d = some true := by
  intro a b c d _ _ _ _
  refine Ev.rounds ?_
  unfold laws_FnExactTimesRatios.f laws_toRatio.f
  simp only [Option.bind_some]
  refine Ev.bind (STimes_ev a b c d) ?_
  refine Ev.bind (ITimes_ev a b c d) ?_
  unfold laws_eqRatio.f
  simp only [if_true, Option.bind_some, bne_self_eq_false, Bool.false_eq_true, if_false]
  exact Ev.now true

end Go.Proofs.Ytneiadniopmcnaa.Pure
