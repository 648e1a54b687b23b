/-
  Sums and products do not depend on the order, and comparison is the sign of the difference, at every drawn input.
  Conditions: none beside the given statement's own.
-/
import Derived.Test.YtneiadniopmcnaaPFnRatiosx6
set_option linter.unusedSimpArgs false
set_option linter.unusedVariables false
namespace Go.Proofs.Ytneiadniopmcnaa.Pure
open Go.RowKit Go.Proofs.Ytneiadniopmcnaa.PFnRatios Go.Proofs.YtneiadniopmcnaaW.PrintWords Go.Proofs.YtneiadniopmcnaaW.PrintLast Go.Proofs.YtneiadniopmcnaaW.PrintMore

theorem wrap_id {x : Int} (h1 : -9223372036854775808 ≤ x) (h2 : x < 9223372036854775808) : wrap64 x = x := by unfold wrap64; omega
theorem rd_nat (l : List Int) (i : Nat) (h : i < l.length) : rd l (i : Int) = l[i] := by
  unfold rd; rw [Int.toNat_natCast, List.getD_eq_getElem?_getD, List.getElem?_eq_getElem h]; rfl
theorem wf64 {x : Int} (h : (Lit.int .i64 x).wf = true) : -9223372036854775808 ≤ x ∧ x < 9223372036854775808 := by
  have h1 : IntKind.i64.min = -9223372036854775808 := by decide
  have h2 : IntKind.i64.max = 9223372036854775807 := by decide
  simp only [Lit.wf, h1, h2, Bool.and_eq_true, decide_eq_true_eq] at h
  omega
theorem wf8 {x : Int} (h : (Lit.int .u8 x).wf = true) : 0 ≤ x ∧ x < 256 := by
  have h1 : IntKind.u8.min = 0 := by decide
  have h2 : IntKind.u8.max = 255 := by decide
  simp only [Lit.wf, h1, h2, Bool.and_eq_true, decide_eq_true_eq] at h
  omega
theorem set_take (l x : List Int) (i : Nat) (h : i < l.length) (hx : x.length = l.length) (ht : x.take i = l.take i) : (x.set i l[i]).take (i + 1) = l.take (i + 1) := by
  apply List.ext_getElem?
  intro j
  simp only [List.getElem?_take, List.getElem?_set]
  have hj : (x.take i)[j]? = (l.take i)[j]? := by rw [ht]
  simp only [List.getElem?_take] at hj
  by_cases h1 : j < i + 1
  · rw [if_pos h1, if_pos h1]
    by_cases h2 : i = j
    · subst h2; rw [if_pos rfl, if_pos (by omega), List.getElem?_eq_getElem h]
    · rw [if_neg h2]; rw [if_pos (by omega), if_pos (by omega)] at hj; exact hj
  · rw [if_neg h1, if_neg h1]
theorem drop_eq_cons (l : List Int) (i : Nat) (h : i < l.length) : l.drop i = l[i] :: l.drop (i + 1) := List.drop_eq_getElem_cons h
theorem cons_iff {a b : Int} (e : a = b) (l x : List Int) : (a :: l = b :: x) ↔ l = x := by
  rw [e]
  exact ⟨fun h => (List.cons.inj h).2, fun h => by rw [h]⟩
theorem take_full (l x : List Int) (i : Nat) (hi : l.length ≤ i) (hx : x.length = l.length) (ht : x.take i = l.take i) : x = l := by
  rwa [List.take_of_length_le (by omega), List.take_of_length_le hi] at ht

theorem InRange_eq (a b c : Int) : impl_InRange.f a b c = some (decide (b ≤ a ∧ a ≤ c)) := by
  unfold impl_InRange.f
  by_cases h : b ≤ a
  · rw [if_pos h]; congr 1; by_cases h2 : a ≤ c <;> simp [h2] <;> omega
  · rw [if_neg h]; congr 1; simp; omega

theorem l1In_eq (a b c : Int) : spec_l1In.f a b c = some (decide (b ≤ a ∧ a ≤ c)) := by
  unfold spec_l1In.f
  by_cases h : a ≥ b
  · rw [if_pos h]; congr 1; by_cases h2 : a ≤ c <;> simp [h2] <;> omega
  · rw [if_neg h]; congr 1; simp; omega

theorem big_eq (l : List Int) : laws_big.f l = some (decide ((l.length : Int) > 1048576)) := rfl

theorem and255 (x : Int) : 0 ≤ Go.bits .and .i64 x 255 ∧ Go.bits .and .i64 x 255 ≤ 255 := by
  have h : (BitVec.ofInt IntKind.i64.bits x &&& BitVec.ofInt IntKind.i64.bits 255).toNat ≤ 255 := by
    rw [BitVec.toNat_and]
    exact Nat.le_trans Nat.and_le_right (by decide)
  have e : Go.bits .and .i64 x 255 = IntKind.i64.wrap ((BitVec.ofInt IntKind.i64.bits x &&& BitVec.ofInt IntKind.i64.bits 255).toNat : Int) := rfl
  rw [e, Go.IntKind.wrap_i64]
  omega
/-- The cursor of a draw lies in its bytes. -/
def Cur (b : List Int) (s : Int) : Prop := 0 ≤ s ∧ s ≤ b.length
theorem l1Byte_ok (b : List Int) (hb : b.length ≤ 1048576) (s h : Int) (hs : Cur b s) : ∃ x s' h', spec_l1Byte.f b s h = some (x, s', h') ∧ 0 ≤ x ∧ x ≤ 255 ∧ Cur b s' := by
  have hs0 := hs.1
  have hs1 := hs.2
  unfold spec_l1Byte.f
  by_cases c : s < (b.length : Int)
  · rw [if_pos c, if_pos hs.1]
    have hw : wrap64 (s + 1) = s + 1 := wrap_id (by omega) (by omega)
    rw [hw]
    exact ⟨_, _, _, rfl, (and255 _).1, (and255 _).2, ⟨by omega, by omega⟩⟩
  · rw [if_neg c]
    exact ⟨_, _, _, rfl, (and255 _).1, (and255 _).2, hs⟩
theorem l1Below_ok (b : List Int) (hb : b.length ≤ 1048576) (s h n : Int) (hs : Cur b s) : ∃ x s' h', spec_l1Below.f b s h n = some (x, s', h') ∧ 0 ≤ x ∧ (0 < n → x < n) ∧ Cur b s' := by
  unfold spec_l1Below.f
  by_cases c : n ≤ 0
  · rw [if_pos c]; exact ⟨0, s, h, rfl, by omega, fun h => by omega, hs⟩
  · rw [if_neg c]
    by_cases c2 : n ≤ 256
    · rw [if_pos c2]
      obtain ⟨x, s', h', e, h0, h1, hc⟩ := l1Byte_ok b hb s h hs
      rw [e]
      simp only [Option.bind_some]
      rw [if_neg (by omega), Int.tmod_eq_emod_of_nonneg h0]
      exact ⟨_, _, _, rfl, Int.emod_nonneg _ (by omega), fun h => Int.emod_lt_of_pos _ h, hc⟩
    · rw [if_neg c2]
      obtain ⟨x, s1, h1, e1, a0, a1, hc1⟩ := l1Byte_ok b hb s h hs
      obtain ⟨y, s2, h2, e2, b0, b1, hc2⟩ := l1Byte_ok b hb s1 h1 hc1
      obtain ⟨z, s3, h3, e3, d0, d1, hc3⟩ := l1Byte_ok b hb s2 h2 hc2
      simp only [e1, e2, e3, Option.bind_some]
      rw [if_neg (by omega), wrap_id (x := x * 65536) (by omega) (by omega), wrap_id (x := y * 256) (by omega) (by omega), wrap_id (x := x * 65536 + y * 256) (by omega) (by omega), wrap_id (x := x * 65536 + y * 256 + z) (by omega) (by omega), Int.tmod_eq_emod_of_nonneg (by omega)]
      exact ⟨_, _, _, rfl, Int.emod_nonneg _ (by omega), fun h => Int.emod_lt_of_pos _ h, hc3⟩
theorem l1New_l0 (l : List Int) (hl : l.length ≤ 1048576) (d : Nat) : ∀ (i : Nat) (h : Int), l.length - i = d → ∃ h', Ev (fun k => spec_l1New.l0 k l h (i : Int)) (l, 0, h') := by
  induction d with
  | zero =>
    intro i h hd
    refine ⟨h, Ev.step (f := fun _ => some (l, 0, h)) (fun k => ?_) (Ev.now _)⟩
    simp only [spec_l1New.l0]
    rw [if_neg (by omega)]
  | succ d ih =>
    intro i h hd
    by_cases c : (i : Int) < 4000
    · obtain ⟨h', e⟩ := ih (i + 1) (Go.bits .and .i64 (wrap64 ((wrap64 ((wrap64 (h * 137)) + (wrap64 (rd l (i : Int))))) + 11)) 1073741823) (by omega)
      refine ⟨h', Ev.step (f := fun k => spec_l1New.l0 k l _ ((i + 1 : Nat) : Int)) (fun k => ?_) e⟩
      simp only [spec_l1New.l0]
      rw [if_pos (by omega), if_pos c, if_pos (by omega), wrap_id (x := (i : Int) + 1) (by omega) (by omega)]
      rfl
    · refine ⟨h, Ev.step (f := fun _ => some (l, 0, h)) (fun k => ?_) (Ev.now _)⟩
      simp only [spec_l1New.l0]
      rw [if_pos (by omega), if_neg c]
theorem l1New_ev (l : List Int) (hl : l.length ≤ 1048576) : ∃ h', Ev (fun k => spec_l1New.f k l) (l, 0, h') := l1New_l0 l hl l.length 0 _ (by omega)
theorem cur0 (l : List Int) : Cur l 0 := ⟨by omega, by omega⟩

theorem l1Once_ok (b : List Int) (hb : b.length ≤ 1048576) (s h n : Int) (hs : Cur b s) : ∃ (t : Bool) (s' h' : Int), spec_l1Once.f b s h n = some (t, s', h') ∧ Cur b s' := by
  obtain ⟨x, s', h', e, _, _, hc⟩ := l1Below_ok b hb s h n hs
  unfold spec_l1Once.f
  rw [e]
  exact ⟨_, s', h', rfl, hc⟩

theorem l1Int_ok (b : List Int) (hb : b.length ≤ 1048576) (s h : Int) (l : List Int) (hl : 0 < l.length) (hs : Cur b s) : ∃ x s' h', spec_l1Int.f b s h l = some (x, s', h') ∧ x ∈ l ∧ Cur b s' := by
  obtain ⟨x, s', h', e, h0, h1, hc⟩ := l1Below_ok b hb s h (l.length : Int) hs
  have h1 := h1 (by omega)
  unfold spec_l1Int.f
  rw [e]
  simp only [Option.bind_some]
  rw [if_pos h0, if_pos h1]
  refine ⟨_, s', h', rfl, ?_, hc⟩
  have hx : x.toNat < l.length := by omega
  have := rd_nat l x.toNat hx
  rw [Int.toNat_of_nonneg h0] at this
  rw [this]
  exact List.getElem_mem hx

theorem impl_gcd_l0 (b : Nat) : ∀ a : Nat, Ev (fun k => impl_gcd.l0 k (a : Int) (b : Int)) ((Nat.gcd a b : Nat) : Int) := by
  induction b using Nat.strongRecOn with
  | ind b ih =>
    intro a
    by_cases h : b = 0
    · subst h
      refine Ev.step (f := fun _ => some (a : Int)) (fun k => ?_) (by simpa using Ev.now (a : Int))
      simp only [impl_gcd.l0]
      rw [if_pos (by omega)]
    · have hg : Nat.gcd a b = Nat.gcd b (a % b) := by rw [Nat.gcd_comm a b, Nat.gcd_rec b a, Nat.gcd_comm]
      rw [hg]
      refine Ev.step (f := fun k => impl_gcd.l0 k (b : Int) ((a % b : Nat) : Int)) (fun k => ?_) (ih (a % b) (Nat.mod_lt _ (by omega)) b)
      simp only [impl_gcd.l0]
      rw [if_neg (by omega), Int.tmod_eq_emod_of_nonneg (by omega)]
      rfl

theorem spec_l4Gcd_l0 (b : Nat) : ∀ a : Nat, Ev (fun k => spec_l4Gcd.l0 k (a : Int) (b : Int)) ((Nat.gcd a b : Nat) : Int) := by
  induction b using Nat.strongRecOn with
  | ind b ih =>
    intro a
    by_cases h : b = 0
    · subst h
      refine Ev.step (f := fun _ => some (a : Int)) (fun k => ?_) (by simpa using Ev.now (a : Int))
      simp only [spec_l4Gcd.l0]
      rw [if_neg (by omega)]
    · have hg : Nat.gcd a b = Nat.gcd b (a % b) := by rw [Nat.gcd_comm a b, Nat.gcd_rec b a, Nat.gcd_comm]
      rw [hg]
      refine Ev.step (f := fun k => spec_l4Gcd.l0 k (b : Int) ((a % b : Nat) : Int)) (fun k => ?_) (ih (a % b) (Nat.mod_lt _ (by omega)) b)
      simp only [spec_l4Gcd.l0]
      rw [if_pos (by omega), if_neg (by omega), Int.tmod_eq_emod_of_nonneg (by omega)]
      rfl

theorem gcdI_ev (a b : Int) (ha : -9223372036854775808 < a) (ha' : a < 9223372036854775808) (hb : -9223372036854775808 < b) (hb' : b < 9223372036854775808) : Ev (fun k => impl_gcd.f k a b) ((Int.gcd a b : Nat) : Int) := by
  have h0 : Ev (fun k => impl_gcd.j0 k ((a.natAbs : Nat) : Int) b) ((Int.gcd a b : Nat) : Int) := by
    refine Ev.step (f := fun k => impl_gcd.j1 k ((a.natAbs : Nat) : Int) ((b.natAbs : Nat) : Int)) (fun k => ?_) (Ev.step (fun k => impl_gcd.j1.eq_2 _ _ _) (impl_gcd_l0 b.natAbs a.natAbs))
    simp only [impl_gcd.j0]
    by_cases h : b < 0
    · rw [if_pos h, wrap_id (by omega) (by omega), show -b = ((b.natAbs : Nat) : Int) by omega]
    · rw [if_neg h, show (b.natAbs : Int) = b by omega]
  unfold impl_gcd.f
  by_cases h : a < 0
  · simp only [if_pos h]
    rw [wrap_id (by omega) (by omega), show -a = ((a.natAbs : Nat) : Int) by omega]
    exact h0
  · simp only [if_neg h]
    rw [show (a.natAbs : Int) = a by omega] at h0
    exact h0
theorem absS (a : Int) (ha : -9223372036854775808 < a) (ha' : a < 9223372036854775808) : spec_Max.f a (wrap64 (-a)) = some ((a.natAbs : Nat) : Int) := by
  unfold spec_Max.f
  rw [wrap_id (by omega) (by omega)]
  by_cases h : -a > a
  · rw [if_pos h]; congr 1; omega
  · rw [if_neg h]; congr 1; omega
theorem gcdS_ev (a b : Int) (ha : -9223372036854775808 < a) (ha' : a < 9223372036854775808) (hb : -9223372036854775808 < b) (hb' : b < 9223372036854775808) : Ev (fun k => spec_l4Gcd.f k a b) ((Int.gcd a b : Nat) : Int) := by
  unfold spec_l4Gcd.f
  simp only [absS a ha ha', absS b hb hb', Option.bind_some]
  exact spec_l4Gcd_l0 b.natAbs a.natAbs
def isR (n d : Int) : Bool := decide ((-1000000000 ≤ n ∧ n ≤ 1000000000) ∧ (1 ≤ d ∧ d ≤ 1000000000) ∧ ((Int.gcd n d : Nat) : Int) = 1)
theorem isRI_ev (n d : Int) : Ev (fun k => impl_IsRatio.f k n d) (isR n d) := by
  unfold impl_IsRatio.f isR
  simp only [InRange_eq, Option.bind_some]
  by_cases c1 : -1000000000 ≤ n ∧ n ≤ 1000000000
  · by_cases c2 : 1 ≤ d ∧ d ≤ 1000000000
    · simp only [decide_eq_true c1, decide_eq_true c2, if_true]
      refine Ev.bind (gcdI_ev n d (by omega) (by omega) (by omega) (by omega)) ?_
      have e : (((Int.gcd n d : Nat) : Int) == 1) = decide ((-1000000000 ≤ n ∧ n ≤ 1000000000) ∧ (1 ≤ d ∧ d ≤ 1000000000) ∧ ((Int.gcd n d : Nat) : Int) = 1) := by
        rw [Bool.eq_iff_iff, beq_iff_eq, decide_eq_true_iff]
        exact ⟨fun h => ⟨c1, c2, h⟩, fun h => h.2.2⟩
      rw [e]
      exact Ev.now _
    · simp only [decide_eq_true c1, decide_eq_false c2, if_true, Bool.false_eq_true, if_false]
      rw [decide_eq_false fun h => c2 h.2.1]
      exact Ev.now _
  · simp only [decide_eq_false c1, Bool.false_eq_true, if_false]
    rw [decide_eq_false fun h => c1 h.1]
    exact Ev.now _
theorem isRS_ev (n d : Int) : Ev (fun k => spec_IsRatio.f k n d) (isR n d) := by
  unfold spec_IsRatio.f isR
  simp only [l1In_eq, Option.bind_some]
  by_cases c1 : -1000000000 ≤ n ∧ n ≤ 1000000000
  · by_cases c2 : 1 ≤ d ∧ d ≤ 1000000000
    · simp only [decide_eq_true c1, decide_eq_true c2, if_true]
      refine Ev.bind (gcdS_ev n d (by omega) (by omega) (by omega) (by omega)) ?_
      have e : (((Int.gcd n d : Nat) : Int) == 1) = decide ((-1000000000 ≤ n ∧ n ≤ 1000000000) ∧ (1 ≤ d ∧ d ≤ 1000000000) ∧ ((Int.gcd n d : Nat) : Int) = 1) := by
        rw [Bool.eq_iff_iff, beq_iff_eq, decide_eq_true_iff]
        exact ⟨fun h => ⟨c1, c2, h⟩, fun h => h.2.2⟩
      rw [e]
      exact Ev.now _
    · simp only [decide_eq_true c1, decide_eq_false c2, if_true, Bool.false_eq_true, if_false]
      rw [decide_eq_false fun h => c2 h.2.1]
      exact Ev.now _
  · simp only [decide_eq_false c1, Bool.false_eq_true, if_false]
    rw [decide_eq_false fun h => c1 h.1]
    exact Ev.now _
theorem isR_iff (n d : Int) : isR n d = true ↔ (-1000000000 ≤ n ∧ n ≤ 1000000000) ∧ (1 ≤ d ∧ d ≤ 1000000000) ∧ ((Int.gcd n d : Nat) : Int) = 1 := by
  unfold isR
  rw [decide_eq_true_iff]

def redOf (n d : Int) : Int × Int × Bool :=
  if isR (Int.tdiv n (if d < 0 then -((Int.gcd n d : Nat) : Int) else ((Int.gcd n d : Nat) : Int))) (Int.tdiv d (if d < 0 then -((Int.gcd n d : Nat) : Int) else ((Int.gcd n d : Nat) : Int))) = true then
    (Int.tdiv n (if d < 0 then -((Int.gcd n d : Nat) : Int) else ((Int.gcd n d : Nat) : Int)), Int.tdiv d (if d < 0 then -((Int.gcd n d : Nat) : Int) else ((Int.gcd n d : Nat) : Int)), true)
  else (0, 0, false)
theorem tdiv_le (n g : Int) : (Int.tdiv n g).natAbs ≤ n.natAbs := by
  rw [Int.natAbs_tdiv]
  exact Nat.div_le_self _ _
theorem gcd_small (n d : Int) (hd : d ≠ 0) (hd0 : -9223372036854775808 < d) (hd1 : d < 9223372036854775808) : 0 < ((Int.gcd n d : Nat) : Int) ∧ ((Int.gcd n d : Nat) : Int) < 9223372036854775808 := by
  have h1 : 0 < Int.gcd n d := by
    rcases Nat.eq_zero_or_pos (Int.gcd n d) with h | h
    · exact absurd (Int.gcd_eq_zero_iff.1 h).2 hd
    · exact h
  have h2 : Int.gcd n d ≤ d.natAbs := Nat.le_of_dvd (by omega) (by
    have := Int.gcd_dvd_right n d
    exact Int.natAbs_dvd_natAbs.2 this)
  omega
theorem redI_ev (n d : Int) (hd : d ≠ 0) (hn0 : -9223372036854775808 < n) (hn1 : n < 9223372036854775808) (hd0 : -9223372036854775808 < d) (hd1 : d < 9223372036854775808) : Ev (fun k => impl_reduced.f k n d) (redOf n d) := by
  have hg := gcd_small n d hd hd0 hd1
  unfold impl_reduced.f redOf
  refine Ev.bind (gcdI_ev n d hn0 hn1 hd0 hd1) ?_
  by_cases c : d < 0
  · simp only [if_pos c]
    have b1 := tdiv_le n (-((Int.gcd n d : Nat) : Int))
    have b2 := tdiv_le d (-((Int.gcd n d : Nat) : Int))
    have e1 : wrap64 (-((Int.gcd n d : Nat) : Int)) = -((Int.gcd n d : Nat) : Int) := wrap_id (by omega) (by omega)
    have e2 : wrap64 (Int.tdiv n (-((Int.gcd n d : Nat) : Int))) = Int.tdiv n (-((Int.gcd n d : Nat) : Int)) := wrap_id (by omega) (by omega)
    have e3 : wrap64 (Int.tdiv d (-((Int.gcd n d : Nat) : Int))) = Int.tdiv d (-((Int.gcd n d : Nat) : Int)) := wrap_id (by omega) (by omega)
    simp only [e1, e2, e3, if_neg (show ¬ (-((Int.gcd n d : Nat) : Int) = 0) by omega)]
    refine Ev.bind (isRI_ev _ _) ?_
    split <;> exact Ev.now _
  · simp only [if_neg c]
    have b1 := tdiv_le n ((Int.gcd n d : Nat) : Int)
    have b2 := tdiv_le d ((Int.gcd n d : Nat) : Int)
    have e2 : wrap64 (Int.tdiv n ((Int.gcd n d : Nat) : Int)) = Int.tdiv n ((Int.gcd n d : Nat) : Int) := wrap_id (by omega) (by omega)
    have e3 : wrap64 (Int.tdiv d ((Int.gcd n d : Nat) : Int)) = Int.tdiv d ((Int.gcd n d : Nat) : Int) := wrap_id (by omega) (by omega)
    simp only [e2, e3, if_neg (show ¬ (((Int.gcd n d : Nat) : Int) = 0) by omega)]
    refine Ev.bind (isRI_ev _ _) ?_
    split <;> exact Ev.now _
theorem makeS_j0 (n d : Int) (hd : 0 < d) (hn0 : -9223372036854775808 < n) (hn1 : n < 9223372036854775808) (hd1 : d < 9223372036854775808) : Ev (fun k => spec_l4Make.j0 k n d) (redOf n d) := by
  have hg := gcd_small n d (by omega) (by omega) hd1
  refine Ev.step (fun k => spec_l4Make.j0.eq_2 _ _ _) ?_
  unfold redOf
  refine Ev.bind (gcdS_ev n d hn0 hn1 (by omega) hd1) ?_
  have b1 := tdiv_le n ((Int.gcd n d : Nat) : Int)
  have b2 := tdiv_le d ((Int.gcd n d : Nat) : Int)
  have e2 : wrap64 (Int.tdiv n ((Int.gcd n d : Nat) : Int)) = Int.tdiv n ((Int.gcd n d : Nat) : Int) := wrap_id (by omega) (by omega)
  have e3 : wrap64 (Int.tdiv d ((Int.gcd n d : Nat) : Int)) = Int.tdiv d ((Int.gcd n d : Nat) : Int) := wrap_id (by omega) (by omega)
  simp only [e2, e3, if_neg (show ¬ (d < 0) by omega), if_neg (show ¬ (((Int.gcd n d : Nat) : Int) = 0) by omega)]
  refine Ev.bind (isRS_ev _ _) ?_
  split <;> exact Ev.now _
theorem redOf_neg (n d : Int) (hd : d < 0) : redOf (-n) (-d) = redOf n d := by
  unfold redOf
  simp only [Int.gcd_neg, Int.neg_gcd, if_pos hd, if_neg (show ¬ (-d < 0) by omega), Int.neg_tdiv, Int.tdiv_neg]
theorem makeS_ev (n d : Int) (hd : d ≠ 0) (hn0 : -9223372036854775808 < n) (hn1 : n < 9223372036854775808) (hd0 : -9223372036854775808 < d) (hd1 : d < 9223372036854775808) : Ev (fun k => spec_l4Make.f k n d) (redOf n d) := by
  unfold spec_l4Make.f
  simp only [if_neg hd]
  by_cases c : d < 0
  · simp only [if_pos c]
    rw [wrap_id (by omega) (by omega), wrap_id (by omega) (by omega), ← redOf_neg n d c]
    exact makeS_j0 (-n) (-d) (by omega) (by omega) (by omega) (by omega)
  · simp only [if_neg c]
    exact makeS_j0 n d (by omega) hn0 hn1 hd1
theorem redOf_valid (n d : Int) : redOf n d = (0, 0, false) ∨ ∃ a b, redOf n d = (a, b, true) ∧ isR a b = true := by
  unfold redOf
  generalize Int.tdiv n (if d < 0 then -((Int.gcd n d : Nat) : Int) else ((Int.gcd n d : Nat) : Int)) = a
  generalize Int.tdiv d (if d < 0 then -((Int.gcd n d : Nat) : Int) else ((Int.gcd n d : Nat) : Int)) = b
  by_cases h : isR a b = true
  · rw [if_pos h]; exact .inr ⟨a, b, rfl, h⟩
  · rw [if_neg h]; exact .inl rfl

theorem redOf_eq (n d x y : Int) (hd : d ≠ 0) (h : redOf n d = (x, y, true)) : isR x y = true ∧ x * d = n * y := by
  unfold redOf at h
  have hg0 : ((Int.gcd n d : Nat) : Int) ≠ 0 := fun h => hd (Int.gcd_eq_zero_iff.1 (show Int.gcd n d = 0 by omega)).2
  have k1 := Int.gcd_dvd_left n d
  have k2 := Int.gcd_dvd_right n d
  obtain ⟨G, hG, hG0, d1, d2⟩ : ∃ G, (if d < 0 then -((Int.gcd n d : Nat) : Int) else ((Int.gcd n d : Nat) : Int)) = G ∧ G ≠ 0 ∧ G ∣ n ∧ G ∣ d := by
    refine ⟨_, rfl, ?_, ?_, ?_⟩
    · split <;> omega
    · split
      · exact Int.neg_dvd.2 k1
      · exact k1
    · split
      · exact Int.neg_dvd.2 k2
      · exact k2
  rw [hG] at h
  obtain ⟨u, rfl⟩ := d1
  obtain ⟨v, rfl⟩ := d2
  rw [Int.mul_tdiv_cancel_left _ hG0, Int.mul_tdiv_cancel_left _ hG0] at h
  by_cases c : isR u v = true
  · rw [if_pos c] at h
    simp only [Prod.mk.injEq, and_true] at h
    obtain ⟨rfl, rfl⟩ := h
    exact ⟨c, by rw [← Int.mul_assoc, Int.mul_comm u G]⟩
  · rw [if_neg c] at h
    simp at h
theorem redOf_of (n d a b : Int) (hd : d ≠ 0) (h : isR a b = true) (e : n * b = a * d) : redOf n d = (a, b, true) := by
  have hv := (isR_iff a b).1 h
  have hb : b ∣ a * d := ⟨n, by rw [← e, Int.mul_comm]⟩
  have hg : Int.gcd b a = 1 := by
    have := hv.2.2
    rw [Int.gcd_comm]
    omega
  have hdv : b ∣ d := by
    refine Int.natAbs_dvd_natAbs.1 (Nat.Coprime.dvd_of_dvd_mul_left (m := a.natAbs) hg ?_)
    rw [← Int.natAbs_mul]
    exact Int.natAbs_dvd_natAbs.2 hb
  obtain ⟨t, rfl⟩ := hdv
  have ht : t ≠ 0 := fun h => hd (by rw [h, Int.mul_zero])
  have hn : n = a * t := by
    have e2 : b * n = b * (a * t) := by
      rw [Int.mul_comm b n, e, ← Int.mul_assoc, ← Int.mul_assoc, Int.mul_comm a b]
    exact Int.eq_of_mul_eq_mul_left (by omega) e2
  subst hn
  unfold redOf
  have g1 : ((Int.gcd (a * t) (b * t) : Nat) : Int) = ((t.natAbs : Nat) : Int) := by
    rw [Int.gcd_mul_right]
    have := hv.2.2
    have : Int.gcd a b = 1 := by omega
    rw [this, Nat.one_mul]
  have g2 : (if b * t < 0 then -((Int.gcd (a * t) (b * t) : Nat) : Int) else ((Int.gcd (a * t) (b * t) : Nat) : Int)) = t := by
    rw [g1]
    by_cases c : t < 0
    · rw [if_pos (Int.mul_neg_of_pos_of_neg (by omega) c)]
      omega
    · have : 0 ≤ b * t := Int.mul_nonneg (by omega) (by omega)
      rw [if_neg (by omega)]
      omega
  rw [g2, Int.mul_tdiv_cancel _ ht, Int.mul_tdiv_cancel _ ht, if_pos h]

theorem mul_bd {x y : Int} {A B : Nat} (hx : x.natAbs ≤ A) (hy : y.natAbs ≤ B) : (x * y).natAbs ≤ A * B := by
  rw [Int.natAbs_mul]
  exact Nat.mul_le_mul hx hy
theorem den_pos {b d : Int} (hb : 1 ≤ b) (hd : 1 ≤ d) : 0 < b * d := Int.mul_pos (by omega) (by omega)

def addOf (a b c d : Int) : Int × Int × Bool := if isR a b = true ∧ isR c d = true then redOf (a * d + c * b) (b * d) else (0, 0, false)

theorem SAdd_ev (a b c d : Int) : Ev (fun k => spec_AddRatios.f k a b c d) (addOf a b c d) := by
  unfold spec_AddRatios.f addOf
  refine Ev.bind (isRS_ev a b) ?_
  by_cases c1 : isR a b = true
  · simp only [c1, if_true, true_and]
    refine Ev.bind (isRS_ev c d) ?_
    by_cases c2 : isR c d = true
    · simp only [c2, if_true]
      have h1 := (isR_iff a b).1 c1
      have h2 := (isR_iff c d).1 c2
      have m1 := mul_bd (x := a) (y := d) (A := 1000000000) (B := 1000000000) (by omega) (by omega)
      have m2 := mul_bd (x := c) (y := b) (A := 1000000000) (B := 1000000000) (by omega) (by omega)
      have m3 := mul_bd (x := b) (y := d) (A := 1000000000) (B := 1000000000) (by omega) (by omega)
      have m4 := mul_bd (x := a) (y := c) (A := 1000000000) (B := 1000000000) (by omega) (by omega)
      have m5 := den_pos h1.2.1.1 h2.2.1.1
      have e1 : wrap64 (a * d) = a * d := wrap_id (by omega) (by omega)
      have e2 : wrap64 (c * b) = c * b := wrap_id (by omega) (by omega)
      have e3 : wrap64 (b * d) = b * d := wrap_id (by omega) (by omega)
      have e4 : wrap64 (a * d + c * b) = a * d + c * b := wrap_id (by omega) (by omega)
      have e5 : wrap64 (a * c) = a * c := wrap_id (by omega) (by omega)
      simp only [e1, e2, e3, e4, e5]
      exact Ev.bind (makeS_ev (a * d + c * b) (b * d) (by omega) (by omega) (by omega) (by omega) (by omega)) (Ev.now _)
    · simp only [if_neg c2]
      exact Ev.now _
  · simp only [if_neg c1]
    rw [if_neg fun h => c1 h.1]
    exact Ev.now _

theorem IAdd_ev (a b c d : Int) : Ev (fun k => impl_AddRatios.f k a b c d) (addOf a b c d) := by
  unfold impl_AddRatios.f addOf
  refine Ev.bind (isRI_ev a b) ?_
  by_cases c1 : isR a b = true
  · simp only [c1, if_true, true_and]
    refine Ev.bind (isRI_ev c d) ?_
    by_cases c2 : isR c d = true
    · simp only [c2, if_true]
      have h1 := (isR_iff a b).1 c1
      have h2 := (isR_iff c d).1 c2
      have m1 := mul_bd (x := a) (y := d) (A := 1000000000) (B := 1000000000) (by omega) (by omega)
      have m2 := mul_bd (x := c) (y := b) (A := 1000000000) (B := 1000000000) (by omega) (by omega)
      have m3 := mul_bd (x := b) (y := d) (A := 1000000000) (B := 1000000000) (by omega) (by omega)
      have m4 := mul_bd (x := a) (y := c) (A := 1000000000) (B := 1000000000) (by omega) (by omega)
      have m5 := den_pos h1.2.1.1 h2.2.1.1
      have e1 : wrap64 (a * d) = a * d := wrap_id (by omega) (by omega)
      have e2 : wrap64 (c * b) = c * b := wrap_id (by omega) (by omega)
      have e3 : wrap64 (b * d) = b * d := wrap_id (by omega) (by omega)
      have e4 : wrap64 (a * d + c * b) = a * d + c * b := wrap_id (by omega) (by omega)
      have e5 : wrap64 (a * c) = a * c := wrap_id (by omega) (by omega)
      simp only [e1, e2, e3, e4, e5]
      exact Ev.bind (redI_ev (a * d + c * b) (b * d) (by omega) (by omega) (by omega) (by omega) (by omega)) (Ev.now _)
    · simp only [if_neg c2]
      exact Ev.now _
  · simp only [if_neg c1]
    rw [if_neg fun h => c1 h.1]
    exact Ev.now _

def timesOf (a b c d : Int) : Int × Int × Bool := if isR a b = true ∧ isR c d = true then redOf (a * c) (b * d) else (0, 0, false)

theorem ITimes_ev (a b c d : Int) : Ev (fun k => impl_TimesRatios.f k a b c d) (timesOf a b c d) := by
  unfold impl_TimesRatios.f timesOf
  refine Ev.bind (isRI_ev a b) ?_
  by_cases c1 : isR a b = true
  · simp only [c1, if_true, true_and]
    refine Ev.bind (isRI_ev c d) ?_
    by_cases c2 : isR c d = true
    · simp only [c2, if_true]
      have h1 := (isR_iff a b).1 c1
      have h2 := (isR_iff c d).1 c2
      have m1 := mul_bd (x := a) (y := d) (A := 1000000000) (B := 1000000000) (by omega) (by omega)
      have m2 := mul_bd (x := c) (y := b) (A := 1000000000) (B := 1000000000) (by omega) (by omega)
      have m3 := mul_bd (x := b) (y := d) (A := 1000000000) (B := 1000000000) (by omega) (by omega)
      have m4 := mul_bd (x := a) (y := c) (A := 1000000000) (B := 1000000000) (by omega) (by omega)
      have m5 := den_pos h1.2.1.1 h2.2.1.1
      have e1 : wrap64 (a * d) = a * d := wrap_id (by omega) (by omega)
      have e2 : wrap64 (c * b) = c * b := wrap_id (by omega) (by omega)
      have e3 : wrap64 (b * d) = b * d := wrap_id (by omega) (by omega)
      have e4 : wrap64 (a * d + c * b) = a * d + c * b := wrap_id (by omega) (by omega)
      have e5 : wrap64 (a * c) = a * c := wrap_id (by omega) (by omega)
      simp only [e1, e2, e3, e4, e5]
      exact Ev.bind (redI_ev (a * c) (b * d) (by omega) (by omega) (by omega) (by omega) (by omega)) (Ev.now _)
    · simp only [if_neg c2]
      exact Ev.now _
  · simp only [if_neg c1]
    rw [if_neg fun h => c1 h.1]
    exact Ev.now _

def cmpOf (a b c d : Int) : Int := if isR a b = true ∧ isR c d = true then (if wrap64 (a * d) < wrap64 (c * b) then -1 else if wrap64 (a * d) > wrap64 (c * b) then 1 else 0) else 0
theorem cmpI_ev (a b c d : Int) : Ev (fun k => impl_CompareRatios.f k a b c d) (cmpOf a b c d) := by
  unfold impl_CompareRatios.f
  refine Ev.bind (isRI_ev a b) ?_
  by_cases c1 : isR a b = true
  · simp only [c1, if_true]
    refine Ev.bind (isRI_ev c d) ?_
    refine Ev.step (fun k => impl_CompareRatios.j0.eq_2 _ _ _ _ _ _) ?_
    by_cases c2 : isR c d = true
    · have e : cmpOf a b c d = if wrap64 (a * d) < wrap64 (c * b) then -1 else if wrap64 (a * d) > wrap64 (c * b) then 1 else 0 := by unfold cmpOf; rw [if_pos ⟨c1, c2⟩]
      rw [e]
      simp only [c2, Bool.not_true, Bool.false_eq_true, if_false]
      split
      · exact Ev.now _
      · split <;> exact Ev.now _
    · have e : cmpOf a b c d = 0 := by unfold cmpOf; rw [if_neg fun h => c2 h.2]
      rw [e]
      simp only [Bool.not_eq_true] at c2
      simp only [c2, Bool.not_false, if_true]
      exact Ev.now _
  · have e : cmpOf a b c d = 0 := by unfold cmpOf; rw [if_neg fun h => c1 h.1]
    rw [e]
    simp only [if_neg c1]
    refine Ev.step (fun k => impl_CompareRatios.j0.eq_2 _ _ _ _ _ _) ?_
    simp only [if_true]
    exact Ev.now _

def mkOf (n d : Int) : Int × Int × Bool := if (-1000000000 ≤ n ∧ n ≤ 1000000000) ∧ (-1000000000 ≤ d ∧ d ≤ 1000000000) ∧ d ≠ 0 then redOf n d else (0, 0, false)
theorem mkI_ev (n d : Int) : Ev (fun k => impl_MakeRatio.f k n d) (mkOf n d) := by
  unfold impl_MakeRatio.f mkOf
  simp only [InRange_eq, Option.bind_some]
  by_cases c1 : -1000000000 ≤ n ∧ n ≤ 1000000000
  · by_cases c2 : -1000000000 ≤ d ∧ d ≤ 1000000000
    · simp only [decide_eq_true c1, decide_eq_true c2, if_true]
      by_cases c3 : d = 0
      · simp only [if_pos c3]
        rw [if_neg fun h => h.2.2 c3]
        exact Ev.now _
      · simp only [if_neg c3]
        rw [if_pos ⟨c1, c2, c3⟩]
        exact Ev.bind (redI_ev n d c3 (by omega) (by omega) (by omega) (by omega)) (Ev.now _)
    · simp only [decide_eq_true c1, decide_eq_false c2, if_true, Bool.false_eq_true, if_false]
      rw [if_neg fun h => c2 h.2.1]
      exact Ev.now _
  · simp only [decide_eq_false c1, Bool.false_eq_true, if_false]
    rw [if_neg fun h => c1 h.1]
    exact Ev.now _

theorem l4Draw_ok (l : List Int) (hl : l.length ≤ 1048576) (s h : Int) (hs : Cur l s) : ∃ x y s' h', Ev (fun k => spec_l4Draw.f k l s h) (x, y, s', h') ∧ Cur l s' := by
  obtain ⟨n, s1, h1, e1, n0, n1, c1⟩ := l1Below_ok l hl s h 41 hs
  have n1 := n1 (by decide)
  obtain ⟨m, s2, h2, e2, m0, m1, c2⟩ := l1Below_ok l hl s1 h1 12 c1
  have m1 := m1 (by decide)
  obtain ⟨t, s3, h3, e3, c3⟩ := l1Once_ok l hl s2 h2 6 c2
  have w1 : wrap64 (n - 20) = n - 20 := wrap_id (by omega) (by omega)
  have w2 : wrap64 (1 + m) = 1 + m := wrap_id (by omega) (by omega)
  cases t with
  | false =>
    refine ⟨(redOf (n - 20) (1 + m)).1, (redOf (n - 20) (1 + m)).2.1, s3, h3, ?_, c3⟩
    unfold spec_l4Draw.f
    simp only [e1, e2, Option.bind_some, w1, w2]
    refine Ev.bind (makeS_ev (n - 20) (1 + m) (by omega) (by omega) (by omega) (by omega) (by omega)) ?_
    simp only [e3, Option.bind_some, Bool.false_eq_true, if_false]
    exact Ev.now _
  | true =>
    obtain ⟨p, s4, h4, e4, mp, c4⟩ := l1Int_ok l hl s3 h3 [1000000000, (-1000000000), 999999999, 1] (by simp) c3
    obtain ⟨q, s5, h5, e5, mq, c5⟩ := l1Int_ok l hl s4 h4 [1, 999999999, 1000000000, 7] (by simp) c4
    simp only [List.mem_cons, List.not_mem_nil, or_false] at mp mq
    refine ⟨(redOf p q).1, (redOf p q).2.1, s5, h5, ?_, c5⟩
    unfold spec_l4Draw.f
    simp only [e1, e2, Option.bind_some, w1, w2]
    refine Ev.bind (makeS_ev (n - 20) (1 + m) (by omega) (by omega) (by omega) (by omega) (by omega)) ?_
    simp only [e3, e4, e5, Option.bind_some, if_true]
    refine Ev.bind (makeS_ev p q (by omega) (by omega) (by omega) (by omega) (by omega)) ?_
    exact Ev.now _
theorem l4Any_ok (l : List Int) (hl : l.length ≤ 1048576) (s h : Int) (hs : Cur l s) : ∃ x y s' h', Ev (fun k => spec_l4Any.f k l s h) (x, y, s', h') ∧ Cur l s' := by
  obtain ⟨x, y, s1, h1, e1, c1⟩ := l4Draw_ok l hl s h hs
  obtain ⟨m, s2, h2, e2, m0, m1, c2⟩ := l1Below_ok l hl s1 h1 9 c1
  obtain ⟨p, s3, h3, e3, _, c3⟩ := l1Int_ok l hl s2 h2 [0, (-1), 1000000001, 9223372036854775807] (by simp) c2
  obtain ⟨q, s4, h4, e4, _, c4⟩ := l1Int_ok l hl s2 h2 [1000000001, (-1000000001), (-9223372036854775808)] (by simp) c2
  by_cases a0 : m = 0
  · refine ⟨x, p, s3, h3, ?_, c3⟩
    unfold spec_l4Any.f
    refine Ev.bind e1 ?_
    simp only [e2, Option.bind_some, if_pos a0, e3]
    exact Ev.now _
  · by_cases a1 : m = 1
    · refine ⟨q, y, s4, h4, ?_, c4⟩
      unfold spec_l4Any.f
      refine Ev.bind e1 ?_
      simp only [e2, Option.bind_some, if_neg a0, if_pos a1, e4]
      exact Ev.now _
    · by_cases a2 : m = 2
      · refine ⟨2, 4, s2, h2, ?_, c2⟩
        unfold spec_l4Any.f
        refine Ev.bind e1 ?_
        simp only [e2, Option.bind_some, if_neg a0, if_neg a1, if_pos a2]
        exact Ev.now _
      · refine ⟨x, y, s2, h2, ?_, c2⟩
        unfold spec_l4Any.f
        refine Ev.bind e1 ?_
        simp only [e2, Option.bind_some, if_neg a0, if_neg a1, if_neg a2]
        exact Ev.now _
theorem drawAdd_ev (l : List Int) (hl : l.length ≤ 1048576) : ∃ a b c d, Ev (fun k => spec_DrawAddRatios.f k l) (a, b, c, d) := by
  obtain ⟨h1, e1⟩ := l1New_ev l hl
  obtain ⟨a, b, s2, h2, e2, c2⟩ := l4Any_ok l hl 0 h1 (cur0 l)
  obtain ⟨c, d, s3, h3, e3, c3⟩ := l4Any_ok l hl s2 h2 c2
  refine ⟨a, b, c, d, ?_⟩
  unfold spec_DrawAddRatios.f
  refine Ev.bind e1 ?_
  refine Ev.bind e2 ?_
  exact Ev.bind e3 (Ev.now _)
theorem drawMake_ev (l : List Int) (hl : l.length ≤ 1048576) : ∃ n m, Ev (fun k => spec_DrawMakeRatio.f k l) (n, m) := by
  obtain ⟨h1, e1⟩ := l1New_ev l hl
  obtain ⟨t, s2, h2, e2, c2⟩ := l1Once_ok l hl 0 h1 4 (cur0 l)
  cases t with
  | true =>
    obtain ⟨p, s3, h3, e3, _, c3⟩ := l1Int_ok l hl s2 h2 [0, 6, 1000000000, (-1000000000), 1000000001, (-9223372036854775808)] (by simp) c2
    obtain ⟨q, s4, h4, e4, _, c4⟩ := l1Int_ok l hl s3 h3 [0, (-4), 1000000000, (-1000000001), 9223372036854775807] (by simp) c3
    refine ⟨p, q, ?_⟩
    unfold spec_DrawMakeRatio.f
    refine Ev.bind e1 ?_
    simp only [e2, e3, e4, Option.bind_some, if_true]
    exact Ev.now _
  | false =>
    obtain ⟨p, s3, h3, e3, _, _, c3⟩ := l1Below_ok l hl s2 h2 60 c2
    obtain ⟨q, s4, h4, e4, _, _, c4⟩ := l1Below_ok l hl s3 h3 30 c3
    refine ⟨wrap64 (p - 30), wrap64 (q - 10), ?_⟩
    unfold spec_DrawMakeRatio.f
    refine Ev.bind e1 ?_
    simp only [e2, e3, e4, Option.bind_some, Bool.false_eq_true, if_false]
    exact Ev.now _
theorem addOf_comm (a b c d : Int) : addOf c d a b = addOf a b c d := by
  unfold addOf
  rw [Int.add_comm (c * b) (a * d), Int.mul_comm d b]
  by_cases h : isR a b = true ∧ isR c d = true
  · rw [if_pos h, if_pos h.symm]
  · rw [if_neg h, if_neg fun g => h g.symm]
theorem timesOf_comm (a b c d : Int) : timesOf c d a b = timesOf a b c d := by
  unfold timesOf
  rw [Int.mul_comm c a, Int.mul_comm d b]
  by_cases h : isR a b = true ∧ isR c d = true
  · rw [if_pos h, if_pos h.symm]
  · rw [if_neg h, if_neg fun g => h g.symm]
theorem addOf_valid (a b c d : Int) : addOf a b c d = (0, 0, false) ∨ ∃ x y, addOf a b c d = (x, y, true) ∧ isR x y = true := by
  unfold addOf
  split
  · exact redOf_valid _ _
  · exact .inl rfl
theorem timesOf_valid (a b c d : Int) : timesOf a b c d = (0, 0, false) ∨ ∃ x y, timesOf a b c d = (x, y, true) ∧ isR x y = true := by
  unfold timesOf
  split
  · exact redOf_valid _ _
  · exact .inl rfl
theorem mk_valid (n m : Int) : mkOf n m = (0, 0, false) ∨ ∃ x y, mkOf n m = (x, y, true) ∧ isR x y = true ∧ x * m = n * y := by
  unfold mkOf
  split
  · rename_i h
    rcases redOf_valid n m with g | ⟨x, y, g, _⟩
    · exact .inl g
    · exact .inr ⟨x, y, g, redOf_eq n m x y h.2.2 g⟩
  · exact .inl rfl
theorem cmp_neg (a b c d : Int) : cmpOf a b c d = wrap64 (-(cmpOf c d a b)) := by
  unfold cmpOf
  by_cases h : isR a b = true ∧ isR c d = true
  · rw [if_pos h, if_pos h.symm]
    by_cases h1 : wrap64 (a * d) < wrap64 (c * b)
    · rw [if_pos h1, if_neg (by omega), if_pos (by omega)]; exact (wrap_id (by decide) (by decide)).symm
    · by_cases h2 : wrap64 (a * d) > wrap64 (c * b)
      · rw [if_neg h1, if_pos h2, if_pos (by omega)]; exact (wrap_id (by decide) (by decide)).symm
      · rw [if_neg h1, if_neg h2, if_neg (by omega), if_neg (by omega)]; exact (wrap_id (by decide) (by decide)).symm
  · rw [if_neg h, if_neg fun g => h g.symm]; exact (wrap_id (by decide) (by decide)).symm
def negOf (c d : Int) : Int × Int := if isR c d = true then (wrap64 (-c), d) else (0, 0)
theorem neg_ev (c d : Int) : Ev (fun k => impl_NegRatio.f k c d) (negOf c d) := by
  unfold impl_NegRatio.f negOf
  refine Ev.bind (isRI_ev c d) ?_
  split <;> exact Ev.now _
theorem minus_ev (a b c d : Int) : Ev (fun k => laws_minus.f k a b c d) (addOf a b (negOf c d).1 (negOf c d).2) := by
  unfold laws_minus.f
  refine Ev.bind (neg_ev c d) ?_
  exact Ev.bind (IAdd_ev _ _ _ _) (Ev.now _)
theorem isR00 : isR 0 0 = false := by decide
theorem minus_fine (a b c d x y : Int) (h : addOf a b (negOf c d).1 (negOf c d).2 = (x, y, true)) : isR a b = true ∧ isR c d = true ∧ isR x y = true ∧ x * (b * d) = (a * d - c * b) * y := by
  have hcd : isR c d = true := by
    by_cases g : isR c d = true
    · exact g
    · unfold negOf at h
      rw [if_neg g] at h
      unfold addOf at h
      rw [if_neg (by simp only [isR00, Bool.false_eq_true, and_false, not_false_eq_true])] at h
      simp at h
  have hv := (isR_iff c d).1 hcd
  unfold negOf at h
  rw [if_pos hcd, wrap_id (x := -c) (by omega) (by omega)] at h
  unfold addOf at h
  by_cases g : isR a b = true ∧ isR (-c) d = true
  · simp only [if_pos g] at h
    have hu := (isR_iff a b).1 g.1
    have hp := den_pos hu.2.1.1 hv.2.1.1
    have r := redOf_eq _ _ x y (by omega) h
    refine ⟨g.1, hcd, r.1, ?_⟩
    rw [r.2, Int.neg_mul, ← Int.sub_eq_add_neg]
  · simp only [if_neg g] at h
    simp at h
theorem sign_same (a b c d x y : Int) (ha : isR a b = true) (hc : isR c d = true) (hx : isR x y = true) (e : x * (b * d) = (a * d - c * b) * y) :
    (decide (x > 0)) = (decide (cmpOf a b c d > 0)) ∧ (decide (x < 0)) = (decide (cmpOf a b c d < 0)) := by
  have h1 := (isR_iff a b).1 ha
  have h2 := (isR_iff c d).1 hc
  have h3 := (isR_iff x y).1 hx
  have m1 := mul_bd (x := a) (y := d) (A := 1000000000) (B := 1000000000) (by omega) (by omega)
  have m2 := mul_bd (x := c) (y := b) (A := 1000000000) (B := 1000000000) (by omega) (by omega)
  have hp := den_pos h1.2.1.1 h2.2.1.1
  unfold cmpOf
  rw [if_pos ⟨ha, hc⟩, wrap_id (x := a * d) (by omega) (by omega), wrap_id (x := c * b) (by omega) (by omega)]
  generalize a * d = u at *
  generalize c * b = v at *
  generalize b * d = w at *
  have hy : 0 < y := by omega
  rcases Int.lt_trichotomy u v with c1 | c1 | c1
  · have : (u - v) * y < 0 := Int.mul_neg_of_neg_of_pos (by omega) hy
    have hx0 : x < 0 := by
      rcases Int.lt_or_le x 0 with k | k
      · exact k
      · have := Int.mul_nonneg k (Int.le_of_lt hp); omega
    rw [if_pos c1]
    constructor <;> simp only [decide_eq_decide] <;> omega
  · subst c1
    rw [Int.sub_self, Int.zero_mul] at e
    have hx0 : x = 0 := by
      rcases Int.mul_eq_zero.1 e with k | k
      · exact k
      · omega
    subst hx0
    rw [if_neg (by omega), if_neg (by omega)]
    constructor <;> simp only [decide_eq_decide] <;> omega
  · have : 0 < (u - v) * y := Int.mul_pos (by omega) hy
    have hx0 : 0 < x := by
      rcases Int.lt_or_le 0 x with k | k
      · exact k
      · have := Int.mul_nonneg (Int.neg_nonneg_of_nonpos k) (Int.le_of_lt hp)
        rw [Int.neg_mul] at this
        omega
    rw [if_neg (by omega), if_pos (by omega)]
    constructor <;> simp only [decide_eq_decide] <;> omega
theorem back_same (a b c d x y : Int) (ha : isR a b = true) (hc : isR c d = true) (hx : isR x y = true) (e : x * (b * d) = (a * d - c * b) * y) : addOf x y c d = (a, b, true) := by
  have h2 := (isR_iff c d).1 hc
  have h3 := (isR_iff x y).1 hx
  unfold addOf
  rw [if_pos ⟨hx, hc⟩]
  refine redOf_of _ _ a b ?_ ha ?_
  · have := den_pos h3.2.1.1 h2.2.1.1
    omega
  · rw [Int.sub_mul] at e
    have e1 : x * d * b = x * (b * d) := by rw [Int.mul_assoc, Int.mul_comm d b]
    have e2 : c * y * b = c * b * y := by rw [Int.mul_assoc, Int.mul_assoc, Int.mul_comm y b]
    have e3 : a * (y * d) = a * d * y := by rw [Int.mul_assoc, Int.mul_comm y d]
    rw [Int.add_mul, e1, e2, e3, e]
    omega
theorem j3_ev (l0 : List Int) (hl : l0.length ≤ 1048576) (a b c d : Int) : Ev (fun k => laws_FnRatios.j3 k l0 a b c d) true := by
  refine Ev.step (fun k => laws_FnRatios.j3.eq_2 _ _ _ _ _ _) ?_
  obtain ⟨n, m, e⟩ := drawMake_ev l0 hl
  refine Ev.bind e ?_
  refine Ev.bind (mkI_ev n m) ?_
  have hc : (cmpOf a b c d == wrap64 (-(cmpOf c d a b))) = true := by rw [← cmp_neg, beq_self_eq_true]
  rcases mk_valid n m with h | ⟨x, y, h, hx, hxy⟩
  · simp only [h, Bool.false_eq_true, if_false]
    refine Ev.bind (cmpI_ev a b c d) ?_
    refine Ev.bind (cmpI_ev c d a b) ?_
    simp only [hc]
    exact Ev.now _
  · simp only [h, if_true]
    refine Ev.bind (isRI_ev x y) ?_
    simp only [hx, hxy, if_true]
    refine Ev.bind (cmpI_ev a b c d) ?_
    refine Ev.bind (cmpI_ev c d a b) ?_
    simp only [hc]
    exact Ev.now _
theorem j1_false (l0 : List Int) (hl : l0.length ≤ 1048576) (a b c d x y : Int) : Ev (fun k => laws_FnRatios.j1 k l0 false a b c d x y) true := by
  refine Ev.step (fun k => laws_FnRatios.j1.eq_2 _ _ _ _ _ _ _ _ _) ?_
  simp only [Bool.false_eq_true, if_false]
  exact j3_ev l0 hl a b c d
theorem j0_ev (l0 : List Int) (hl : l0.length ≤ 1048576) (a b c d : Int) : Ev (fun k => laws_FnRatios.j0 k l0 false a b c d) true := by
  refine Ev.step (fun k => laws_FnRatios.j0.eq_2 _ _ _ _ _ _ _) ?_
  simp only [Bool.false_eq_true, if_false]
  refine Ev.bind (minus_ev a b c d) ?_
  rcases addOf_valid a b (negOf c d).1 (negOf c d).2 with h | ⟨x, y, h, _⟩
  · simp only [h, Bool.false_eq_true, if_false]
    exact j1_false l0 hl a b c d 0 0
  · obtain ⟨ha, hc, hx, e⟩ := minus_fine a b c d x y h
    simp only [h, if_true]
    refine Ev.bind (isRI_ev a b) ?_
    simp only [ha, if_true]
    refine Ev.bind (isRI_ev c d) ?_
    simp only [hc]
    refine Ev.step (fun k => laws_FnRatios.j1.eq_2 _ _ _ _ _ _ _ _ _) ?_
    simp only [if_true]
    refine Ev.bind (cmpI_ev a b c d) ?_
    have hs := sign_same a b c d x y ha hc hx e
    simp only [hs.1, hs.2, bne_self_eq_false, Bool.false_eq_true, if_false]
    refine Ev.step (fun k => laws_FnRatios.j2.eq_2 _ _ _ _ _ _ _ _ _) ?_
    simp only [Bool.false_eq_true, if_false]
    refine Ev.bind (IAdd_ev x y c d) ?_
    simp only [back_same a b c d x y ha hc hx e, beq_self_eq_true, Bool.not_true, Bool.or_self, Bool.false_eq_true, if_true, if_false]
    exact j3_ev l0 hl a b c d
theorem FnRatios : laws_FnRatios.Pure := by
  intro l0 _ _ _
  refine Ev.rounds ?_
  unfold laws_FnRatios.f
  simp only [big_eq, Option.bind_some]
  by_cases cb : (l0.length : Int) > 1048576
  · simp only [decide_eq_true cb, if_true]; exact Ev.now true
  have b_l0 : l0.length ≤ 1048576 := by omega
  simp only [decide_eq_false cb, Bool.false_eq_true, if_false]
  obtain ⟨a, b, c, d, e1⟩ := drawAdd_ev l0 b_l0
  refine Ev.bind e1 ?_
  refine Ev.bind (IAdd_ev a b c d) ?_
  refine Ev.bind (SAdd_ev a b c d) ?_
  simp only [bne_self_eq_false, Bool.false_eq_true, if_false]
  refine Ev.bind (IAdd_ev c d a b) ?_
  refine Ev.bind (ITimes_ev a b c d) ?_
  refine Ev.bind (ITimes_ev c d a b) ?_
  simp only [addOf_comm a b c d, timesOf_comm a b c d, bne_self_eq_false, beq_self_eq_true, Bool.not_true, Bool.or_self, Bool.false_eq_true, if_false]
  have hj := j0_ev l0 b_l0 a b c d
  rcases addOf_valid a b c d with h | ⟨x, y, h, hx⟩ <;> rcases timesOf_valid a b c d with g | ⟨p, q, g, hp⟩
  · simp only [h, g, Bool.false_eq_true, if_false]
    exact hj
  · simp only [h, g, Bool.false_eq_true, if_false, if_true]
    refine Ev.bind (isRI_ev p q) ?_
    simp only [hp, Bool.not_true]
    exact hj
  · simp only [h, g, Bool.false_eq_true, if_false, if_true]
    refine Ev.bind (isRI_ev x y) ?_
    simp only [hx, if_true]
    exact hj
  · simp only [h, g, if_true]
    refine Ev.bind (isRI_ev x y) ?_
    simp only [hx, if_true]
    refine Ev.bind (isRI_ev p q) ?_
    simp only [hp, Bool.not_true]
    exact hj

end Go.Proofs.Ytneiadniopmcnaa.Pure
