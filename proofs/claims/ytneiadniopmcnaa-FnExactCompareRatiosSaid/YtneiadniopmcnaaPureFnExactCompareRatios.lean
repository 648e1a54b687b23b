/-
  For all arguments, the program's CompareRatios returns what the reference's CompareRatios returns.
  Conditions: none beside the given statement's own.
-/
import Derived.Test.YtneiadniopmcnaaPFnExactCompareRatiosx2
set_option linter.unusedSimpArgs false
set_option linter.unusedVariables false
namespace Go.Proofs.Ytneiadniopmcnaa.Pure
open Go.RowKit Go.Proofs.Ytneiadniopmcnaa.PFnExactCompareRatios Go.Proofs.YtneiadniopmcnaaW.PrintWords Go.Proofs.YtneiadniopmcnaaW.PrintLast Go.Proofs.YtneiadniopmcnaaW.PrintMore

theorem wrap_id {x : Int} (h1 : -9223372036854775808 ≤ x) (h2 : x < 9223372036854775808) : wrap64 x = x := by unfold wrap64; omega
theorem rd_nat (l : List Int) (i : Nat) (h : i < l.length) : rd l (i : Int) = l[i] := by
  unfold rd; rw [Int.toNat_natCast, List.getD_eq_getElem?_getD, List.getElem?_eq_getElem h]; rfl
theorem wf64 {x : Int} (h : (Lit.int .i64 x).wf = true) : -9223372036854775808 ≤ x ∧ x < 9223372036854775808 := by
  have h1 : IntKind.i64.min = -9223372036854775808 := by decide
  have h2 : IntKind.i64.max = 9223372036854775807 := by decide
  simp only [Lit.wf, h1, h2, Bool.and_eq_true, decide_eq_true_eq] at h
  omega
theorem wf8 {x : Int} (h : (Lit.int .u8 x).wf = true) : 0 ≤ x ∧ x < 256 := by
  have h1 : IntKind.u8.min = 0 := by decide
  have h2 : IntKind.u8.max = 255 := by decide
  simp only [Lit.wf, h1, h2, Bool.and_eq_true, decide_eq_true_eq] at h
  omega
theorem set_take (l x : List Int) (i : Nat) (h : i < l.length) (hx : x.length = l.length) (ht : x.take i = l.take i) : (x.set i l[i]).take (i + 1) = l.take (i + 1) := by
  apply List.ext_getElem?
  intro j
  simp only [List.getElem?_take, List.getElem?_set]
  have hj : (x.take i)[j]? = (l.take i)[j]? := by rw [ht]
  simp only [List.getElem?_take] at hj
  by_cases h1 : j < i + 1
  · rw [if_pos h1, if_pos h1]
    by_cases h2 : i = j
    · subst h2; rw [if_pos rfl, if_pos (by omega), List.getElem?_eq_getElem h]
    · rw [if_neg h2]; rw [if_pos (by omega), if_pos (by omega)] at hj; exact hj
  · rw [if_neg h1, if_neg h1]
theorem drop_eq_cons (l : List Int) (i : Nat) (h : i < l.length) : l.drop i = l[i] :: l.drop (i + 1) := List.drop_eq_getElem_cons h
theorem cons_iff {a b : Int} (e : a = b) (l x : List Int) : (a :: l = b :: x) ↔ l = x := by
  rw [e]
  exact ⟨fun h => (List.cons.inj h).2, fun h => by rw [h]⟩
theorem take_full (l x : List Int) (i : Nat) (hi : l.length ≤ i) (hx : x.length = l.length) (ht : x.take i = l.take i) : x = l := by
  rwa [List.take_of_length_le (by omega), List.take_of_length_le hi] at ht

theorem l1In_eq (a b c : Int) : spec_l1In.f a b c = some (decide (b ≤ a ∧ a ≤ c)) := by
  unfold spec_l1In.f
  by_cases h : a ≥ b
  · rw [if_pos h]; congr 1; by_cases h2 : a ≤ c <;> simp [h2] <;> omega
  · rw [if_neg h]; congr 1; simp; omega
theorem InRange_eq (a b c : Int) : impl_InRange.f a b c = some (decide (b ≤ a ∧ a ≤ c)) := by
  unfold impl_InRange.f
  by_cases h : b ≤ a
  · rw [if_pos h]; congr 1; by_cases h2 : a ≤ c <;> simp [h2] <;> omega
  · rw [if_neg h]; congr 1; simp; omega

theorem impl_gcd_l0 (b : Nat) : ∀ a : Nat, Ev (fun k => impl_gcd.l0 k (a : Int) (b : Int)) ((Nat.gcd a b : Nat) : Int) := by
  induction b using Nat.strongRecOn with
  | ind b ih =>
    intro a
    by_cases h : b = 0
    · subst h
      refine Ev.step (f := fun _ => some (a : Int)) (fun k => ?_) (by simpa using Ev.now (a : Int))
      simp only [impl_gcd.l0]
      rw [if_pos (by omega)]
    · have hg : Nat.gcd a b = Nat.gcd b (a % b) := by rw [Nat.gcd_comm a b, Nat.gcd_rec b a, Nat.gcd_comm]
      rw [hg]
      refine Ev.step (f := fun k => impl_gcd.l0 k (b : Int) ((a % b : Nat) : Int)) (fun k => ?_) (ih (a % b) (Nat.mod_lt _ (by omega)) b)
      simp only [impl_gcd.l0]
      rw [if_neg (by omega), Int.tmod_eq_emod_of_nonneg (by omega)]
      rfl

theorem spec_l4Gcd_l0 (b : Nat) : ∀ a : Nat, Ev (fun k => spec_l4Gcd.l0 k (a : Int) (b : Int)) ((Nat.gcd a b : Nat) : Int) := by
  induction b using Nat.strongRecOn with
  | ind b ih =>
    intro a
    by_cases h : b = 0
    · subst h
      refine Ev.step (f := fun _ => some (a : Int)) (fun k => ?_) (by simpa using Ev.now (a : Int))
      simp only [spec_l4Gcd.l0]
      rw [if_neg (by omega)]
    · have hg : Nat.gcd a b = Nat.gcd b (a % b) := by rw [Nat.gcd_comm a b, Nat.gcd_rec b a, Nat.gcd_comm]
      rw [hg]
      refine Ev.step (f := fun k => spec_l4Gcd.l0 k (b : Int) ((a % b : Nat) : Int)) (fun k => ?_) (ih (a % b) (Nat.mod_lt _ (by omega)) b)
      simp only [spec_l4Gcd.l0]
      rw [if_pos (by omega), if_neg (by omega), Int.tmod_eq_emod_of_nonneg (by omega)]
      rfl

theorem gcdI_ev (a b : Int) (ha : -9223372036854775808 < a) (ha' : a < 9223372036854775808) (hb : -9223372036854775808 < b) (hb' : b < 9223372036854775808) : Ev (fun k => impl_gcd.f k a b) ((Int.gcd a b : Nat) : Int) := by
  have h0 : Ev (fun k => impl_gcd.j0 k ((a.natAbs : Nat) : Int) b) ((Int.gcd a b : Nat) : Int) := by
    refine Ev.step (f := fun k => impl_gcd.j1 k ((a.natAbs : Nat) : Int) ((b.natAbs : Nat) : Int)) (fun k => ?_) (Ev.step (fun k => impl_gcd.j1.eq_2 _ _ _) (impl_gcd_l0 b.natAbs a.natAbs))
    simp only [impl_gcd.j0]
    by_cases h : b < 0
    · rw [if_pos h, wrap_id (by omega) (by omega), show -b = ((b.natAbs : Nat) : Int) by omega]
    · rw [if_neg h, show (b.natAbs : Int) = b by omega]
  unfold impl_gcd.f
  by_cases h : a < 0
  · simp only [if_pos h]
    rw [wrap_id (by omega) (by omega), show -a = ((a.natAbs : Nat) : Int) by omega]
    exact h0
  · simp only [if_neg h]
    rw [show (a.natAbs : Int) = a by omega] at h0
    exact h0
theorem absS (a : Int) (ha : -9223372036854775808 < a) (ha' : a < 9223372036854775808) : spec_Max.f a (wrap64 (-a)) = some ((a.natAbs : Nat) : Int) := by
  unfold spec_Max.f
  rw [wrap_id (by omega) (by omega)]
  by_cases h : -a > a
  · rw [if_pos h]; congr 1; omega
  · rw [if_neg h]; congr 1; omega
theorem gcdS_ev (a b : Int) (ha : -9223372036854775808 < a) (ha' : a < 9223372036854775808) (hb : -9223372036854775808 < b) (hb' : b < 9223372036854775808) : Ev (fun k => spec_l4Gcd.f k a b) ((Int.gcd a b : Nat) : Int) := by
  unfold spec_l4Gcd.f
  simp only [absS a ha ha', absS b hb hb', Option.bind_some]
  exact spec_l4Gcd_l0 b.natAbs a.natAbs
def isR (n d : Int) : Bool := decide ((-1000000000 ≤ n ∧ n ≤ 1000000000) ∧ (1 ≤ d ∧ d ≤ 1000000000) ∧ ((Int.gcd n d : Nat) : Int) = 1)
theorem isRI_ev (n d : Int) : Ev (fun k => impl_IsRatio.f k n d) (isR n d) := by
  unfold impl_IsRatio.f isR
  simp only [InRange_eq, Option.bind_some]
  by_cases c1 : -1000000000 ≤ n ∧ n ≤ 1000000000
  · by_cases c2 : 1 ≤ d ∧ d ≤ 1000000000
    · simp only [decide_eq_true c1, decide_eq_true c2, if_true]
      refine Ev.bind (gcdI_ev n d (by omega) (by omega) (by omega) (by omega)) ?_
      have e : (((Int.gcd n d : Nat) : Int) == 1) = decide ((-1000000000 ≤ n ∧ n ≤ 1000000000) ∧ (1 ≤ d ∧ d ≤ 1000000000) ∧ ((Int.gcd n d : Nat) : Int) = 1) := by
        rw [Bool.eq_iff_iff, beq_iff_eq, decide_eq_true_iff]
        exact ⟨fun h => ⟨c1, c2, h⟩, fun h => h.2.2⟩
      rw [e]
      exact Ev.now _
    · simp only [decide_eq_true c1, decide_eq_false c2, if_true, Bool.false_eq_true, if_false]
      rw [decide_eq_false fun h => c2 h.2.1]
      exact Ev.now _
  · simp only [decide_eq_false c1, Bool.false_eq_true, if_false]
    rw [decide_eq_false fun h => c1 h.1]
    exact Ev.now _
theorem isRS_ev (n d : Int) : Ev (fun k => spec_IsRatio.f k n d) (isR n d) := by
  unfold spec_IsRatio.f isR
  simp only [l1In_eq, Option.bind_some]
  by_cases c1 : -1000000000 ≤ n ∧ n ≤ 1000000000
  · by_cases c2 : 1 ≤ d ∧ d ≤ 1000000000
    · simp only [decide_eq_true c1, decide_eq_true c2, if_true]
      refine Ev.bind (gcdS_ev n d (by omega) (by omega) (by omega) (by omega)) ?_
      have e : (((Int.gcd n d : Nat) : Int) == 1) = decide ((-1000000000 ≤ n ∧ n ≤ 1000000000) ∧ (1 ≤ d ∧ d ≤ 1000000000) ∧ ((Int.gcd n d : Nat) : Int) = 1) := by
        rw [Bool.eq_iff_iff, beq_iff_eq, decide_eq_true_iff]
        exact ⟨fun h => ⟨c1, c2, h⟩, fun h => h.2.2⟩
      rw [e]
      exact Ev.now _
    · simp only [decide_eq_true c1, decide_eq_false c2, if_true, Bool.false_eq_true, if_false]
      rw [decide_eq_false fun h => c2 h.2.1]
      exact Ev.now _
  · simp only [decide_eq_false c1, Bool.false_eq_true, if_false]
    rw [decide_eq_false fun h => c1 h.1]
    exact Ev.now _
theorem isR_iff (n d : Int) : isR n d = true ↔ (-1000000000 ≤ n ∧ n ≤ 1000000000) ∧ (1 ≤ d ∧ d ≤ 1000000000) ∧ ((Int.gcd n d : Nat) : Int) = 1 := by
  unfold isR
  rw [decide_eq_true_iff]

def cmpOf (a b c d : Int) : Int := if isR a b = true ∧ isR c d = true then (if wrap64 (a * d) < wrap64 (c * b) then -1 else if wrap64 (a * d) > wrap64 (c * b) then 1 else 0) else 0
theorem cmpS_ev (a b c d : Int) : Ev (fun k => spec_CompareRatios.f k a b c d) (cmpOf a b c d) := by
  unfold spec_CompareRatios.f
  refine Ev.bind (isRS_ev a b) ?_
  by_cases c1 : isR a b = true
  · simp only [c1, if_true]
    refine Ev.bind (isRS_ev c d) ?_
    refine Ev.step (fun k => spec_CompareRatios.j0.eq_2 _ _ _ _ _ _) ?_
    by_cases c2 : isR c d = true
    · have e : cmpOf a b c d = if wrap64 (a * d) < wrap64 (c * b) then -1 else if wrap64 (a * d) > wrap64 (c * b) then 1 else 0 := by unfold cmpOf; rw [if_pos ⟨c1, c2⟩]
      rw [e]
      simp only [c2, Bool.not_true, Bool.false_eq_true, if_false]
      split
      · exact Ev.now _
      · split <;> exact Ev.now _
    · have e : cmpOf a b c d = 0 := by unfold cmpOf; rw [if_neg fun h => c2 h.2]
      rw [e]
      simp only [Bool.not_eq_true] at c2
      simp only [c2, Bool.not_false, if_true]
      exact Ev.now _
  · have e : cmpOf a b c d = 0 := by unfold cmpOf; rw [if_neg fun h => c1 h.1]
    rw [e]
    simp only [if_neg c1]
    refine Ev.step (fun k => spec_CompareRatios.j0.eq_2 _ _ _ _ _ _) ?_
    simp only [if_true]
    exact Ev.now _
theorem cmpI_ev (a b c d : Int) : Ev (fun k => impl_CompareRatios.f k a b c d) (cmpOf a b c d) := by
  unfold impl_CompareRatios.f
  refine Ev.bind (isRI_ev a b) ?_
  by_cases c1 : isR a b = true
  · simp only [c1, if_true]
    refine Ev.bind (isRI_ev c d) ?_
    refine Ev.step (fun k => impl_CompareRatios.j0.eq_2 _ _ _ _ _ _) ?_
    by_cases c2 : isR c d = true
    · have e : cmpOf a b c d = if wrap64 (a * d) < wrap64 (c * b) then -1 else if wrap64 (a * d) > wrap64 (c * b) then 1 else 0 := by unfold cmpOf; rw [if_pos ⟨c1, c2⟩]
      rw [e]
      simp only [c2, Bool.not_true, Bool.false_eq_true, if_false]
      split
      · exact Ev.now _
      · split <;> exact Ev.now _
    · have e : cmpOf a b c d = 0 := by unfold cmpOf; rw [if_neg fun h => c2 h.2]
      rw [e]
      simp only [Bool.not_eq_true] at c2
      simp only [c2, Bool.not_false, if_true]
      exact Ev.now _
  · have e : cmpOf a b c d = 0 := by unfold cmpOf; rw [if_neg fun h => c1 h.1]
    rw [e]
    simp only [if_neg c1]
    refine Ev.step (fun k => impl_CompareRatios.j0.eq_2 _ _ _ _ _ _) ?_
    simp only [if_true]
    exact Ev.now _

theorem FnExactCompareRatios : ∀ (a b c d : Int), (Lit.int .i64 a).wf = true → (Lit.int .i64 b).wf = true → (Lit.int .i64 c).wf = true → (Lit.int .i64 d).wf = true → ∃ k, laws_FnExactCompareRatios.f k a b c d = some true := by
  intro a b c d _ _ _ _
  refine Ev.rounds ?_
  unfold laws_FnExactCompareRatios.f laws_toRatio.f
  simp only [Option.bind_some]
  refine Ev.bind (cmpS_ev a b c d) ?_
  refine Ev.bind (cmpI_ev a b c d) ?_
  simp only [if_true]
  exact Ev.now true

end Go.Proofs.Ytneiadniopmcnaa.Pure
