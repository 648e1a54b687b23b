/-
  Integers are read back from their numerals, and the rounded quotient and the remainder are what they should be, at every drawn input.
  Conditions: none beside the given statement's own.
-/
import Derived.Test.YticigcjojpdapaaDoorPFnIntegersx3
set_option linter.unusedSimpArgs false
set_option linter.unusedVariables false
namespace Go.Proofs.YticigcjojpdapaaDoor.Pure
open Go.RowKit Go.Proofs.YticigcjojpdapaaDoor.PFnIntegers Go.Proofs.YticigcjojpdapaaDoorW.PrintWords Go.Proofs.YticigcjojpdapaaDoorW.PrintLast Go.Proofs.YticigcjojpdapaaDoorW.PrintMore

theorem wrap_id {x : Int} (h1 : -9223372036854775808 ≤ x) (h2 : x < 9223372036854775808) : wrap64 x = x := by unfold wrap64; omega
theorem rd_nat (l : List Int) (i : Nat) (h : i < l.length) : rd l (i : Int) = l[i] := by
  unfold rd; rw [Int.toNat_natCast, List.getD_eq_getElem?_getD, List.getElem?_eq_getElem h]; rfl
theorem wf64 {x : Int} (h : (Lit.int .i64 x).wf = true) : -9223372036854775808 ≤ x ∧ x < 9223372036854775808 := by
  have h1 : IntKind.i64.min = -9223372036854775808 := by decide
  have h2 : IntKind.i64.max = 9223372036854775807 := by decide
  simp only [Lit.wf, h1, h2, Bool.and_eq_true, decide_eq_true_eq] at h
  omega
theorem wf8 {x : Int} (h : (Lit.int .u8 x).wf = true) : 0 ≤ x ∧ x < 256 := by
  have h1 : IntKind.u8.min = 0 := by decide
  have h2 : IntKind.u8.max = 255 := by decide
  simp only [Lit.wf, h1, h2, Bool.and_eq_true, decide_eq_true_eq] at h
  omega
theorem set_take (l x : List Int) (i : Nat) (h : i < l.length) (hx : x.length = l.length) (ht : x.take i = l.take i) : (x.set i l[i]).take (i + 1) = l.take (i + 1) := by
  apply List.ext_getElem?
  intro j
  simp only [List.getElem?_take, List.getElem?_set]
  have hj : (x.take i)[j]? = (l.take i)[j]? := by rw [ht]
  simp only [List.getElem?_take] at hj
  by_cases h1 : j < i + 1
  · rw [if_pos h1, if_pos h1]
    by_cases h2 : i = j
    · subst h2; rw [if_pos rfl, if_pos (by omega), List.getElem?_eq_getElem h]
    · rw [if_neg h2]; rw [if_pos (by omega), if_pos (by omega)] at hj; exact hj
  · rw [if_neg h1, if_neg h1]
theorem drop_eq_cons (l : List Int) (i : Nat) (h : i < l.length) : l.drop i = l[i] :: l.drop (i + 1) := List.drop_eq_getElem_cons h
theorem cons_iff {a b : Int} (e : a = b) (l x : List Int) : (a :: l = b :: x) ↔ l = x := by
  rw [e]
  exact ⟨fun h => (List.cons.inj h).2, fun h => by rw [h]⟩
theorem take_full (l x : List Int) (i : Nat) (hi : l.length ≤ i) (hx : x.length = l.length) (ht : x.take i = l.take i) : x = l := by
  rwa [List.take_of_length_le (by omega), List.take_of_length_le hi] at ht

theorem InRange_eq (a b c : Int) : impl_InRange.f a b c = some (decide (b ≤ a ∧ a ≤ c)) := by
  unfold impl_InRange.f
  by_cases h : b ≤ a
  · rw [if_pos h]; congr 1; by_cases h2 : a ≤ c <;> simp [h2] <;> omega
  · rw [if_neg h]; congr 1; simp; omega

theorem big_eq (l : List Int) : laws_big.f l = some (decide ((l.length : Int) > 1048576)) := rfl

theorem and255 (x : Int) : 0 ≤ Go.bits .and .i64 x 255 ∧ Go.bits .and .i64 x 255 ≤ 255 := by
  have h : (BitVec.ofInt IntKind.i64.bits x &&& BitVec.ofInt IntKind.i64.bits 255).toNat ≤ 255 := by
    rw [BitVec.toNat_and]
    exact Nat.le_trans Nat.and_le_right (by decide)
  have e : Go.bits .and .i64 x 255 = IntKind.i64.wrap ((BitVec.ofInt IntKind.i64.bits x &&& BitVec.ofInt IntKind.i64.bits 255).toNat : Int) := rfl
  rw [e, Go.IntKind.wrap_i64]
  omega
/-- The cursor of a draw lies in its bytes. -/
def Cur (b : List Int) (s : Int) : Prop := 0 ≤ s ∧ s ≤ b.length
theorem l1Byte_ok (b : List Int) (hb : b.length ≤ 1048576) (s h : Int) (hs : Cur b s) : ∃ x s' h', spec_l1Byte.f b s h = some (x, s', h') ∧ 0 ≤ x ∧ x ≤ 255 ∧ Cur b s' := by
  have hs0 := hs.1
  have hs1 := hs.2
  unfold spec_l1Byte.f
  by_cases c : s < (b.length : Int)
  · rw [if_pos c, if_pos hs.1]
    have hw : wrap64 (s + 1) = s + 1 := wrap_id (by omega) (by omega)
    rw [hw]
    exact ⟨_, _, _, rfl, (and255 _).1, (and255 _).2, ⟨by omega, by omega⟩⟩
  · rw [if_neg c]
    exact ⟨_, _, _, rfl, (and255 _).1, (and255 _).2, hs⟩
theorem l1Below_ok (b : List Int) (hb : b.length ≤ 1048576) (s h n : Int) (hs : Cur b s) : ∃ x s' h', spec_l1Below.f b s h n = some (x, s', h') ∧ 0 ≤ x ∧ (0 < n → x < n) ∧ Cur b s' := by
  unfold spec_l1Below.f
  by_cases c : n ≤ 0
  · rw [if_pos c]; exact ⟨0, s, h, rfl, by omega, fun h => by omega, hs⟩
  · rw [if_neg c]
    by_cases c2 : n ≤ 256
    · rw [if_pos c2]
      obtain ⟨x, s', h', e, h0, h1, hc⟩ := l1Byte_ok b hb s h hs
      rw [e]
      simp only [Option.bind_some]
      rw [if_neg (by omega), Int.tmod_eq_emod_of_nonneg h0]
      exact ⟨_, _, _, rfl, Int.emod_nonneg _ (by omega), fun h => Int.emod_lt_of_pos _ h, hc⟩
    · rw [if_neg c2]
      obtain ⟨x, s1, h1, e1, a0, a1, hc1⟩ := l1Byte_ok b hb s h hs
      obtain ⟨y, s2, h2, e2, b0, b1, hc2⟩ := l1Byte_ok b hb s1 h1 hc1
      obtain ⟨z, s3, h3, e3, d0, d1, hc3⟩ := l1Byte_ok b hb s2 h2 hc2
      simp only [e1, e2, e3, Option.bind_some]
      rw [if_neg (by omega), wrap_id (x := x * 65536) (by omega) (by omega), wrap_id (x := y * 256) (by omega) (by omega), wrap_id (x := x * 65536 + y * 256) (by omega) (by omega), wrap_id (x := x * 65536 + y * 256 + z) (by omega) (by omega), Int.tmod_eq_emod_of_nonneg (by omega)]
      exact ⟨_, _, _, rfl, Int.emod_nonneg _ (by omega), fun h => Int.emod_lt_of_pos _ h, hc3⟩
theorem l1New_l0 (l : List Int) (hl : l.length ≤ 1048576) (d : Nat) : ∀ (i : Nat) (h : Int), l.length - i = d → ∃ h', Ev (fun k => spec_l1New.l0 k l h (i : Int)) (l, 0, h') := by
  induction d with
  | zero =>
    intro i h hd
    refine ⟨h, Ev.step (f := fun _ => some (l, 0, h)) (fun k => ?_) (Ev.now _)⟩
    simp only [spec_l1New.l0]
    rw [if_neg (by omega)]
  | succ d ih =>
    intro i h hd
    by_cases c : (i : Int) < 4000
    · obtain ⟨h', e⟩ := ih (i + 1) (Go.bits .and .i64 (wrap64 ((wrap64 ((wrap64 (h * 137)) + (wrap64 (rd l (i : Int))))) + 11)) 1073741823) (by omega)
      refine ⟨h', Ev.step (f := fun k => spec_l1New.l0 k l _ ((i + 1 : Nat) : Int)) (fun k => ?_) e⟩
      simp only [spec_l1New.l0]
      rw [if_pos (by omega), if_pos c, if_pos (by omega), wrap_id (x := (i : Int) + 1) (by omega) (by omega)]
      rfl
    · refine ⟨h, Ev.step (f := fun _ => some (l, 0, h)) (fun k => ?_) (Ev.now _)⟩
      simp only [spec_l1New.l0]
      rw [if_pos (by omega), if_neg c]
theorem l1New_ev (l : List Int) (hl : l.length ≤ 1048576) : ∃ h', Ev (fun k => spec_l1New.f k l) (l, 0, h') := l1New_l0 l hl l.length 0 _ (by omega)
theorem cur0 (l : List Int) : Cur l 0 := ⟨by omega, by omega⟩

theorem l1Once_ok (b : List Int) (hb : b.length ≤ 1048576) (s h n : Int) (hs : Cur b s) : ∃ (t : Bool) (s' h' : Int), spec_l1Once.f b s h n = some (t, s', h') ∧ Cur b s' := by
  obtain ⟨x, s', h', e, _, _, hc⟩ := l1Below_ok b hb s h n hs
  unfold spec_l1Once.f
  rw [e]
  exact ⟨_, s', h', rfl, hc⟩

theorem l1Int_ok (b : List Int) (hb : b.length ≤ 1048576) (s h : Int) (l : List Int) (hl : 0 < l.length) (hs : Cur b s) : ∃ x s' h', spec_l1Int.f b s h l = some (x, s', h') ∧ x ∈ l ∧ Cur b s' := by
  obtain ⟨x, s', h', e, h0, h1, hc⟩ := l1Below_ok b hb s h (l.length : Int) hs
  have h1 := h1 (by omega)
  unfold spec_l1Int.f
  rw [e]
  simp only [Option.bind_some]
  rw [if_pos h0, if_pos h1]
  refine ⟨_, s', h', rfl, ?_, hc⟩
  have hx : x.toNat < l.length := by omega
  have := rd_nat l x.toNat hx
  rw [Int.toNat_of_nonneg h0] at this
  rw [this]
  exact List.getElem_mem hx

theorem l1Num_ok (b : List Int) (hb : b.length ≤ 1048576) (s h : Int) (hs : Cur b s) : ∃ x s' h', spec_l1Num.f b s h = some (x, s', h') ∧ 0 ≤ x ∧ x ≤ 1000000000000 ∧ Cur b s' := by
  unfold spec_l1Num.f
  obtain ⟨t, s1, h1, e1, t0, t1, c1⟩ := l1Below_ok b hb s h 4 hs
  simp only [e1, Option.bind_some]
  by_cases a : t = 0
  · rw [if_pos a]
    obtain ⟨x, s2, h2, e2, x0, x1, c2⟩ := l1Below_ok b hb s1 h1 2000 c1
    have x1 := x1 (by decide)
    rw [e2]
    exact ⟨x, s2, h2, rfl, x0, by omega, c2⟩
  · rw [if_neg a]
    by_cases a1 : t = 1
    · rw [if_pos a1]
      obtain ⟨x, s2, h2, e2, m, c2⟩ := l1Int_ok b hb s1 h1 [0, 1, 127, 128, 2147483646, 2147483647, 1000000000000] (by simp) c1
      simp only [List.mem_cons, List.not_mem_nil, or_false] at m
      rw [e2]
      exact ⟨x, s2, h2, rfl, by omega, by omega, c2⟩
    · rw [if_neg a1]
      by_cases a2 : t = 2
      · rw [if_pos a2]
        obtain ⟨x, s2, h2, e2, x0, x1, c2⟩ := l1Below_ok b hb s1 h1 1000000 c1
        obtain ⟨y, s3, h3, e3, y0, y1, c3⟩ := l1Below_ok b hb s2 h2 1000000 c2
        have x1 := x1 (by decide)
        have y1 := y1 (by decide)
        simp only [e2, e3, Option.bind_some]
        have m0 : 0 ≤ x * y := Int.mul_nonneg x0 y0
        have m1 : x * y ≤ 999999 * 999999 := Int.mul_le_mul (by omega) (by omega) y0 (by decide)
        rw [wrap_id (x := x * y) (by omega) (by omega)]
        exact ⟨x * y, s3, h3, rfl, by omega, by omega, c3⟩
      · rw [if_neg a2]
        obtain ⟨x, s2, h2, e2, x0, x1, c2⟩ := l1Below_ok b hb s1 h1 20 c1
        have x1 := x1 (by decide)
        rw [e2]
        exact ⟨x, s2, h2, rfl, x0, by omega, c2⟩

theorem l1Odd_ok (b : List Int) (hb : b.length ≤ 1048576) (s h : Int) (hs : Cur b s) : ∃ x s' h', spec_l1Odd.f b s h = some (x, s', h') ∧ -9223372036854775808 ≤ x ∧ x ≤ 9223372036854775807 ∧ Cur b s' := by
  unfold spec_l1Odd.f
  obtain ⟨x, s2, h2, e2, m, c2⟩ := l1Int_ok b hb s h [(-1), 0, 1, 2, 255, 256, 65535, 2147483647, 2147483648, 4294967295, 4294967296, (-2147483648), 9223372036854775807, (-9223372036854775808)] (by simp) hs
  simp only [List.mem_cons, List.not_mem_nil, or_false] at m
  rw [e2]
  exact ⟨x, s2, h2, rfl, by omega, by omega, c2⟩
theorem l1Raw_ok (b : List Int) (hb : b.length ≤ 1048576) (s h : Int) (hs : Cur b s) : ∃ x s' h', spec_l1Raw.f b s h = some (x, s', h') ∧ -9223372036854775808 ≤ x ∧ x ≤ 9223372036854775807 ∧ Cur b s' := by
  unfold spec_l1Raw.f
  obtain ⟨t, s1, h1, e1, c1⟩ := l1Once_ok b hb s h 2 hs
  simp only [e1, Option.bind_some]
  cases t with
  | true =>
    obtain ⟨x, s2, h2, e2, x0, x1, c2⟩ := l1Odd_ok b hb s1 h1 c1
    simp only [e2, Option.bind_some, if_true]
    exact ⟨x, s2, h2, rfl, x0, x1, c2⟩
  | false =>
    obtain ⟨x, s2, h2, e2, m, c2⟩ := l1Int_ok b hb s1 h1 [(-1), 1000000000000, 1000000000001] (by simp) c1
    simp only [List.mem_cons, List.not_mem_nil, or_false] at m
    simp only [e2, Option.bind_some, Bool.false_eq_true, if_false]
    exact ⟨x, s2, h2, rfl, by omega, by omega, c2⟩
theorem l1One_ok (b : List Int) (hb : b.length ≤ 1048576) (s h : Int) (hs : Cur b s) : ∃ x s' h', spec_l1One.f b s h = some (x, s', h') ∧ -9223372036854775808 ≤ x ∧ x ≤ 9223372036854775807 ∧ Cur b s' := by
  unfold spec_l1One.f
  obtain ⟨t, s1, h1, e1, c1⟩ := l1Once_ok b hb s h 6 hs
  simp only [e1, Option.bind_some]
  cases t with
  | true =>
    obtain ⟨x, s2, h2, e2, x0, x1, c2⟩ := l1Raw_ok b hb s1 h1 c1
    simp only [e2, Option.bind_some, if_true]
    exact ⟨x, s2, h2, rfl, x0, x1, c2⟩
  | false =>
    obtain ⟨x, s2, h2, e2, x0, x1, c2⟩ := l1Num_ok b hb s1 h1 c1
    simp only [e2, Option.bind_some, Bool.false_eq_true, if_false]
    exact ⟨x, s2, h2, rfl, by omega, by omega, c2⟩

def dl (v : Nat) : List UInt8 := if h : v = 0 then [] else dl (v / 10) ++ [UInt8.ofNat (48 + v % 10)]
termination_by v
decreasing_by omega
theorem dl_zero : dl 0 = [] := by rw [dl, dif_pos rfl]
theorem dl_pos {v : Nat} (h : v ≠ 0) : dl v = dl (v / 10) ++ [UInt8.ofNat (48 + v % 10)] := by rw [dl, dif_neg h]
theorem dec_dl : ∀ v : Nat, v ≠ 0 → Lib.decDigits v = dl v := by
  intro v
  induction v using Nat.strongRecOn with
  | ind v ih =>
    intro h
    by_cases c : v < 10
    · rw [dl_pos h, Nat.div_eq_of_lt c, dl_zero, Lib.decDigits_one c, Nat.mod_eq_of_lt c]
      rfl
    · rw [dl_pos h, Lib.decDigits, dif_neg c, ih (v / 10) (by omega) (by omega)]
theorem app_lists (a b : List UInt8) : (⟨a.toArray⟩ : ByteArray) ++ (⟨b.toArray⟩ : ByteArray) = ⟨(a ++ b).toArray⟩ := by
  apply ByteArray.ext
  rw [ByteArray.data_append]
  simp
theorem size_list (a : List UInt8) : (⟨a.toArray⟩ : ByteArray).size = a.length := by simp [ByteArray.size]
theorem digit (x : Int) (v : Nat) (hv : x.natAbs = v) : (Int.tmod x 10).natAbs = v % 10 := by
  rw [Int.natAbs_tmod, hv]; rfl
theorem one_digit (v : Nat) : strOfNums [((48 + v % 10 : Nat) : Int) % 256] = (⟨[UInt8.ofNat (48 + v % 10)].toArray⟩ : ByteArray) := by
  have e : ((48 + v % 10 : Nat) : Int) % 256 = ((48 + v % 10 : Nat) : Int) := Int.emod_eq_of_lt (by omega) (by omega)
  rw [e]
  rfl
theorem fmt_l0 (n : Nat) : ∀ (x : Int) (l : List UInt8) (a0 : Int), x.natAbs < 10 ^ n → n + l.length ≤ 1000 → -9223372036854775808 ≤ x → x ≤ 9223372036854775807 →
    Ev (fun k => spec_FormatInt.l0 k a0 ⟨l.toArray⟩ x) ⟨((if a0 < 0 then [45] else []) ++ (dl x.natAbs ++ l)).toArray⟩ := by
  have stop : ∀ (l : List UInt8) (a0 : Int), l.length ≤ 1000 → Ev (fun k => spec_FormatInt.l0 k a0 ⟨l.toArray⟩ 0) ⟨((if a0 < 0 then [45] else []) ++ l).toArray⟩ := by
    intro l a0 hl
    by_cases c : a0 < 0
    · refine Ev.step (f := fun _ => some (⟨([45] ++ l).toArray⟩ : ByteArray)) (fun k => ?_) (by rw [if_pos c]; exact Ev.now _)
      simp only [spec_FormatInt.l0]
      rw [if_pos trivial, if_pos c, size_list, if_pos (by omega)]
      rw [← app_lists]
    · refine Ev.step (f := fun _ => some (⟨l.toArray⟩ : ByteArray)) (fun k => ?_) (by rw [if_neg c]; exact Ev.now _)
      simp only [spec_FormatInt.l0]
      rw [if_pos trivial, if_neg c]
  induction n with
  | zero =>
    intro x l a0 hx hl _ _
    have h0 : x = 0 := by have : x.natAbs < 1 := hx; omega
    subst h0
    have := stop l a0 (by omega)
    simpa [dl_zero] using this
  | succ n ih =>
    intro x l a0 hx hl hb0 hb1
    by_cases h0 : x = 0
    · subst h0
      have := stop l a0 (by omega)
      simpa [dl_zero] using this
    · have hv : x.natAbs ≠ 0 := by omega
      have hd := digit x x.natAbs rfl
      have hq : (Int.tdiv x 10).natAbs = x.natAbs / 10 := by rw [Int.natAbs_tdiv]; rfl
      have hw : wrap64 (Int.tdiv x 10) = Int.tdiv x 10 := wrap_id (by omega) (by omega)
      have hp : x.natAbs / 10 < 10 ^ n := by rw [Nat.pow_succ] at hx; omega
      have key := ih (Int.tdiv x 10) (UInt8.ofNat (48 + x.natAbs % 10) :: l) a0 (by rw [hq]; exact hp) (by simp only [List.length_cons]; omega) (by omega) (by omega)
      rw [hq] at key
      have e : dl x.natAbs ++ l = dl (x.natAbs / 10) ++ (UInt8.ofNat (48 + x.natAbs % 10) :: l) := by rw [dl_pos hv, List.append_assoc]; rfl
      rw [e]
      refine Ev.step (fun k => ?_) key
      simp only [spec_FormatInt.l0]
      rw [if_neg h0]
      by_cases c : Int.tmod x 10 < 0
      · have e1 : wrap64 (48 + wrap64 (-(Int.tmod x 10))) = ((48 + x.natAbs % 10 : Nat) : Int) := by
          rw [wrap_id (x := -(Int.tmod x 10)) (by omega) (by omega), wrap_id (by omega) (by omega)]
          omega
        rw [if_pos c, e1, Option.bind_some, one_digit, size_list, size_list, if_pos (by simp only [List.length_cons, List.length_nil]; omega), hw, app_lists]
        rfl
      · have e1 : wrap64 (48 + Int.tmod x 10) = ((48 + x.natAbs % 10 : Nat) : Int) := by
          rw [wrap_id (by omega) (by omega)]
          omega
        rw [if_neg c, e1, Option.bind_some, one_digit, size_list, size_list, if_pos (by simp only [List.length_cons, List.length_nil]; omega), hw, app_lists]
        rfl
theorem fmtS_ev (a : Int) (h0 : -9223372036854775808 ≤ a) (h1 : a ≤ 9223372036854775807) : Ev (fun k => spec_FormatInt.f k a) ⟨(Lib.itoa a).toArray⟩ := by
  unfold spec_FormatInt.f
  by_cases c : a = 0
  · subst c
    simp only [if_pos rfl]
    have e : (⟨(Lib.itoa 0).toArray⟩ : ByteArray) = ⟨#[48]⟩ := by
      unfold Lib.itoa
      rw [if_neg (by decide), show (0 : Int).toNat = 0 from rfl, Lib.decDigits_one (by decide)]
      rfl
    rw [e]
    exact Ev.now _
  · simp only [if_neg c]
    have key := fmt_l0 19 a [] a (by have : a.natAbs ≤ 9223372036854775808 := by omega
                                     have e : (10 : Nat) ^ 19 = 10000000000000000000 := by decide
                                     omega) (by simp) h0 h1
    have e : Lib.itoa a = (if a < 0 then [45] else []) ++ (dl a.natAbs ++ []) := by
      unfold Lib.itoa
      rw [List.append_nil, ← dec_dl a.natAbs (by omega)]
      by_cases h : a < 0
      · rw [if_pos h, if_pos h]; rfl
      · rw [if_neg h, if_neg h, show a.toNat = a.natAbs by omega]; rfl
    rw [e]
    exact key
theorem itoa_eq (a : Int) (h0 : -9223372036854775808 ≤ a) (h1 : a ≤ 9223372036854775807) : strconv_Itoa_26.f a = some ⟨(Lib.itoa a).toArray⟩ := by
  unfold strconv_Itoa_26.f
  rw [if_pos ⟨h0, h1⟩]
theorem fmtI_eq (a : Int) (h0 : -9223372036854775808 ≤ a) (h1 : a ≤ 9223372036854775807) : impl_FormatInt.f a = some ⟨(Lib.itoa a).toArray⟩ := by
  unfold impl_FormatInt.f
  rw [itoa_eq a h0 h1]
  rfl

def rdv (x : Int) (l : List UInt8) : Int := l.foldl (fun x c => 10 * x + ((c.toNat : Int) - 48)) x
def Dig (l : List UInt8) : Prop := ∀ c ∈ l, 48 ≤ c.toNat ∧ c.toNat ≤ 57
theorem dig_one (v : Nat) : (UInt8.ofNat (48 + v % 10)).toNat = 48 + v % 10 := by
  rw [UInt8.toNat_ofNat']
  have : 48 + v % 10 < 256 := by omega
  omega
theorem dec_dig : ∀ v : Nat, Dig (Lib.decDigits v) ∧ rdv 0 (Lib.decDigits v) = (v : Int) ∧ Lib.decDigits v ≠ [] := by
  intro v
  induction v using Nat.strongRecOn with
  | ind v ih =>
    have hd := dig_one v
    by_cases c : v < 10
    · have e : Lib.decDigits v = [UInt8.ofNat (48 + v % 10)] := by rw [Lib.decDigits_one c, Nat.mod_eq_of_lt c]
      rw [e]
      refine ⟨?_, ?_, by simp⟩
      · intro u hu
        rw [List.mem_singleton.1 hu]
        omega
      · simp only [rdv, List.foldl_cons, List.foldl_nil, hd]
        omega
    · obtain ⟨h1, h2, _⟩ := ih (v / 10) (by omega)
      have e : Lib.decDigits v = Lib.decDigits (v / 10) ++ [UInt8.ofNat (48 + v % 10)] := by rw [Lib.decDigits, dif_neg c]
      rw [e]
      refine ⟨?_, ?_, by simp⟩
      · intro u hu
        rcases List.mem_append.1 hu with hu | hu
        · exact h1 u hu
        · rw [List.mem_singleton.1 hu]
          omega
      · have : rdv 0 (Lib.decDigits (v / 10) ++ [UInt8.ofNat (48 + v % 10)]) = 10 * rdv 0 (Lib.decDigits (v / 10)) + (((UInt8.ofNat (48 + v % 10)).toNat : Int) - 48) := by
          simp only [rdv, List.foldl_append, List.foldl_cons, List.foldl_nil]
        rw [this, h2, hd]
        omega
theorem tl (l : List UInt8) : (⟨l.toArray⟩ : ByteArray).toList = l := by
  rw [ByteArray.toList_eq]
theorem itoa_inj (n m : Int) (h0 : 0 ≤ n) (h : Lib.itoa n = Lib.itoa m) : n = m := by
  have d1 := dec_dig n.toNat
  unfold Lib.itoa at h
  rw [if_neg (by omega)] at h
  by_cases c : m < 0
  · rw [if_pos c] at h
    have := d1.1 45 (by rw [h]; simp)
    exact absurd this.1 (by decide)
  · rw [if_neg c] at h
    have d2 := dec_dig m.toNat
    have := d1.2.1
    rw [h, d2.2.1] at this
    omega
theorem parseI_l0 (s : ByteArray) (hs : s.size ≤ 13) (d : Nat) : ∀ (i : Nat) (x : Int), i + d = s.size → 0 ≤ x → x < ((10 ^ i : Nat) : Int) →
    ∃ n ok, Ev (fun k => impl_ParseInt.l0 k s x (s.size : Int) (i : Int)) (n, ok) ∧ (ok = true → 0 ≤ n ∧ n ≤ 1000000000000 ∧ Lib.itoa n = s.toList) := by
  have p13 : (10 : Nat) ^ 13 = 10000000000000 := by decide
  induction d with
  | zero =>
    intro i x hi h0 h1
    have hp : (10 : Nat) ^ i ≤ 10 ^ 13 := Nat.pow_le_pow_right (by decide) (by omega)
    by_cases c : x > 1000000000000
    · refine ⟨0, false, Ev.step (f := fun _ => some (0, false)) (fun k => ?_) (Ev.now _), fun h => by cases h⟩
      simp only [impl_ParseInt.l0]
      rw [if_neg (by omega), if_pos c]
    · have hI := fmtI_eq x (by omega) (by omega)
      by_cases e : Lib.itoa x = s.toList
      · refine ⟨x, true, Ev.step (f := fun _ => some (x, true)) (fun k => ?_) (Ev.now _), fun _ => ⟨h0, by omega, e⟩⟩
        simp only [impl_ParseInt.l0]
        rw [if_neg (by omega), if_neg c, hI, Option.bind_some, tl, if_pos e]
      · refine ⟨0, false, Ev.step (f := fun _ => some (0, false)) (fun k => ?_) (Ev.now _), fun h => by cases h⟩
        simp only [impl_ParseInt.l0]
        rw [if_neg (by omega), if_neg c, hI, Option.bind_some, tl, if_neg e]
  | succ d ih =>
    intro i x hi h0 h1
    have hp : (10 : Nat) ^ i ≤ 10 ^ 12 := Nat.pow_le_pow_right (by decide) (by omega)
    have p12 : (10 : Nat) ^ 12 = 1000000000000 := by decide
    have hb := bt_range s (i : Int)
    by_cases c : 48 ≤ bt s (i : Int) ∧ bt s (i : Int) ≤ 57
    · have hd : (bt s (i : Int) - 48) % 256 = bt s (i : Int) - 48 := Int.emod_eq_of_lt (by omega) (by omega)
      have hq : (10 : Nat) ^ (i + 1) = 10 ^ i * 10 := Nat.pow_succ 10 i
      obtain ⟨n, ok, e2, r⟩ := ih (i + 1) (10 * x + (bt s (i : Int) - 48)) (by omega) (by omega) (by rw [hq]; omega)
      refine ⟨n, ok, Ev.step (fun k => ?_) e2, r⟩
      simp only [impl_ParseInt.l0]
      rw [if_pos (by omega), if_pos (by omega), if_pos (by omega), if_neg (by omega), if_neg (by omega), hd, Int.mul_comm x 10, wrap_id (x := 10 * x) (by omega) (by omega), wrap_id (x := 10 * x + (bt s (i : Int) - 48)) (by omega) (by omega), wrap_id (x := (i : Int) + 1) (by omega) (by omega)]
      rfl
    · refine ⟨0, false, Ev.step (f := fun _ => some (0, false)) (fun k => ?_) (Ev.now _), fun h => by cases h⟩
      simp only [impl_ParseInt.l0]
      rw [if_pos (by omega), if_pos (by omega), if_pos (by omega)]
      by_cases c1 : bt s (i : Int) < 48
      · rw [if_pos c1]
      · rw [if_neg c1, if_pos (by omega)]
theorem parseI_ok (s : ByteArray) : ∃ n ok, Ev (fun k => impl_ParseInt.f k s) (n, ok) ∧ (ok = true → 0 ≤ n ∧ n ≤ 1000000000000 ∧ Lib.itoa n = s.toList) := by
  unfold impl_ParseInt.f
  by_cases c0 : (s.size : Int) = 0
  · refine ⟨0, false, ?_, fun h => by cases h⟩
    simp only [if_pos c0]
    refine Ev.step (fun k => impl_ParseInt.j0.eq_2 _ _ _) ?_
    simp only [if_true]
    exact Ev.now _
  · by_cases c1 : (s.size : Int) > 13
    · refine ⟨0, false, ?_, fun h => by cases h⟩
      simp only [if_neg c0, decide_eq_true c1]
      refine Ev.step (fun k => impl_ParseInt.j0.eq_2 _ _ _) ?_
      simp only [if_true]
      exact Ev.now _
    · obtain ⟨n, ok, e, r⟩ := parseI_l0 s (by omega) s.size 0 0 (by omega) (by omega) (by decide)
      refine ⟨n, ok, ?_, r⟩
      simp only [if_neg c0, decide_eq_false c1]
      refine Ev.step (fun k => impl_ParseInt.j0.eq_2 _ _ _) ?_
      simp only [Bool.false_eq_true, if_false]
      exact e
theorem bt_list (l : List UInt8) (i : Nat) (h : i < l.length) : bt ⟨l.toArray⟩ (i : Int) = ((l[i]).toNat : Int) := by
  unfold bt
  have hs : (i : Int).toNat < (⟨l.toArray⟩ : ByteArray).size := by rw [size_list]; simpa using h
  rw [dif_pos hs]
  rfl
theorem parseI_dec (l : List UInt8) (hl : l.length ≤ 13) (hd : Dig l) (m : Int) (hm : 0 ≤ m) (hm1 : m ≤ 1000000000000) (hi : Lib.itoa m = l) (d : Nat) : ∀ (i : Nat) (x : Int), i + d = l.length → 0 ≤ x → x < ((10 ^ i : Nat) : Int) → rdv x (l.drop i) = m →
    Ev (fun k => impl_ParseInt.l0 k ⟨l.toArray⟩ x (l.length : Int) (i : Int)) (m, true) := by
  have hz := size_list l
  induction d with
  | zero =>
    intro i x hi2 h0 h1 hv
    rw [List.drop_eq_nil_of_le (by omega)] at hv
    have hx : x = m := hv
    subst hx
    refine Ev.step (f := fun _ => some (x, true)) (fun k => ?_) (Ev.now _)
    simp only [impl_ParseInt.l0]
    rw [if_neg (by omega), if_neg (by omega), fmtI_eq x (by omega) (by omega), Option.bind_some, tl, tl, if_pos hi]
  | succ d ih =>
    intro i x hi2 h0 h1 hv
    have hlt : i < l.length := by omega
    have hp : (10 : Nat) ^ i ≤ 10 ^ 12 := Nat.pow_le_pow_right (by decide) (by omega)
    have p12 : (10 : Nat) ^ 12 = 1000000000000 := by decide
    have hb := hd l[i] (List.getElem_mem hlt)
    have e := bt_list l i hlt
    have hq : (10 : Nat) ^ (i + 1) = 10 ^ i * 10 := Nat.pow_succ 10 i
    rw [List.drop_eq_getElem_cons hlt] at hv
    have key := ih (i + 1) (10 * x + ((l[i].toNat : Int) - 48)) (by omega) (by omega) (by rw [hq]; omega) hv
    have hdd : ((l[i].toNat : Int) - 48) % 256 = (l[i].toNat : Int) - 48 := Int.emod_eq_of_lt (by omega) (by omega)
    refine Ev.step (fun k => ?_) key
    simp only [impl_ParseInt.l0]
    rw [if_pos (by omega), if_pos (by omega), if_pos (by omega), e, if_neg (by omega), if_neg (by omega), hdd, Int.mul_comm x 10, wrap_id (x := 10 * x) (by omega) (by omega), wrap_id (x := 10 * x + ((l[i].toNat : Int) - 48)) (by omega) (by omega), wrap_id (x := (i : Int) + 1) (by omega) (by omega)]
    rfl
theorem dec_len (n : Nat) : ∀ v : Nat, v < 10 ^ (n + 1) → (Lib.decDigits v).length ≤ n + 1 := by
  induction n with
  | zero =>
    intro v hv
    rw [Lib.decDigits_one (by simpa using hv)]
    simp
  | succ n ih =>
    intro v hv
    by_cases c : v < 10
    · rw [Lib.decDigits_one c]
      simp
    · have := ih (v / 10) (by rw [Nat.pow_succ] at hv; omega)
      rw [Lib.decDigits, dif_neg c, List.length_append, List.length_cons, List.length_nil]
      omega
theorem parseI_itoa (m : Int) (hm : 0 ≤ m) (hm1 : m ≤ 1000000000000) : Ev (fun k => impl_ParseInt.f k ⟨(Lib.itoa m).toArray⟩) (m, true) := by
  have hi : Lib.itoa m = Lib.decDigits m.toNat := by unfold Lib.itoa; rw [if_neg (by omega)]
  obtain ⟨d1, d2, d3⟩ := dec_dig m.toNat
  have e12 : (10 : Nat) ^ (12 + 1) = 10000000000000 := by decide
  have hl := dec_len 12 m.toNat (by omega)
  have hp : 0 < (Lib.decDigits m.toNat).length := List.length_pos_iff.2 d3
  rw [hi]
  unfold impl_ParseInt.f
  simp only [size_list, if_neg (show ¬ (((Lib.decDigits m.toNat).length : Int) = 0) by omega), decide_eq_false (show ¬ (((Lib.decDigits m.toNat).length : Int) > 13) by omega)]
  refine Ev.step (fun k => impl_ParseInt.j0.eq_2 _ _ _) ?_
  simp only [Bool.false_eq_true, if_false, size_list]
  exact parseI_dec _ (by omega) d1 m hm hm1 hi (Lib.decDigits m.toNat).length 0 0 (by omega) (by omega) (by decide) (by rw [List.drop_zero, d2]; omega)

theorem l1Str_ok (b : List Int) (hb : b.length ≤ 1048576) (s h : Int) (l : List ByteArray) (hl : 0 < l.length) (hs : Cur b s) : ∃ x s' h', spec_l1Str.f b s h l = some (x, s', h') ∧ Cur b s' := by
  obtain ⟨x, s', h', e, h0, h1, hc⟩ := l1Below_ok b hb s h (l.length : Int) hs
  have h1 := h1 (by omega)
  unfold spec_l1Str.f
  rw [e]
  simp only [Option.bind_some]
  rw [if_pos h0, if_pos h1]
  exact ⟨_, s', h', rfl, hc⟩
theorem drawParse_ev (l : List Int) (hl : l.length ≤ 1048576) : ∃ s, Ev (fun k => spec_DrawParseInt.f k l) s := by
  obtain ⟨h1, e1⟩ := l1New_ev l hl
  obtain ⟨t, s2, h2, e2, c2⟩ := l1Once_ok l hl 0 h1 2 (cur0 l)
  cases t with
  | true =>
    obtain ⟨x, s3, h3, e3, c3⟩ := l1Str_ok l hl s2 h2 ([(⟨#[]⟩ : ByteArray), (⟨#[48]⟩ : ByteArray), (⟨#[48, 48]⟩ : ByteArray), (⟨#[45, 49]⟩ : ByteArray), (⟨#[48, 49]⟩ : ByteArray), (⟨#[55]⟩ : ByteArray), (⟨#[49, 48, 48, 48, 48, 48, 48, 48, 48, 48, 48, 48, 48]⟩ : ByteArray), (⟨#[49, 48, 48, 48, 48, 48, 48, 48, 48, 48, 48, 48, 49]⟩ : ByteArray), (⟨#[57, 57, 57, 57, 57, 57, 57, 57, 57, 57, 57, 57, 57, 57]⟩ : ByteArray), (⟨#[49, 120]⟩ : ByteArray), (⟨#[32, 49]⟩ : ByteArray)] : List ByteArray) (by simp) c2
    refine ⟨x, ?_⟩
    unfold spec_DrawParseInt.f
    refine Ev.bind e1 ?_
    simp only [e2, Option.bind_some, if_true]
    rw [e3]
    exact Ev.now _
  | false =>
    obtain ⟨n, s3, h3, e3, n0, n1, c3⟩ := l1Num_ok l hl s2 h2 c2
    refine ⟨⟨(Lib.itoa n).toArray⟩, ?_⟩
    unfold spec_DrawParseInt.f
    refine Ev.bind e1 ?_
    simp only [e2, e3, Option.bind_some, Bool.false_eq_true, if_false]
    exact Ev.bind (fmtS_ev n (by omega) (by omega)) (Ev.now _)
theorem drawFmt_ev (l : List Int) (hl : l.length ≤ 1048576) : ∃ m, Ev (fun k => spec_DrawFormatInt.f k l) m ∧ -9223372036854775808 ≤ m ∧ m ≤ 9223372036854775807 := by
  obtain ⟨h1, e1⟩ := l1New_ev l hl
  obtain ⟨m, s2, h2, e2, m0, m1, c2⟩ := l1One_ok l hl 0 h1 (cur0 l)
  refine ⟨m, ?_, m0, m1⟩
  unfold spec_DrawFormatInt.f
  refine Ev.bind e1 ?_
  simp only [e2, Option.bind_some]
  exact Ev.now _
theorem drawCeil_ev (l : List Int) (hl : l.length ≤ 1048576) : ∃ a b, Ev (fun k => spec_DrawCeilDiv.f k l) (a, b) := by
  obtain ⟨h1, e1⟩ := l1New_ev l hl
  obtain ⟨a, s2, h2, e2, _, _, c2⟩ := l1One_ok l hl 0 h1 (cur0 l)
  obtain ⟨b, s3, h3, e3, _, _, c3⟩ := l1One_ok l hl s2 h2 c2
  refine ⟨a, b, ?_⟩
  unfold spec_DrawCeilDiv.f
  refine Ev.bind e1 ?_
  simp only [e2, e3, Option.bind_some]
  exact Ev.now _
def cdOf (a b : Int) : Int := if (0 ≤ a ∧ a ≤ 1000000000000) ∧ (1 ≤ b ∧ b ≤ 1000000000000) then (a + b - 1) / b else 0
def mdOf (a b : Int) : Int := if 1 ≤ b ∧ b ≤ 1000000000000 then (Int.tmod a b + b) % b else 0
theorem tm_range (a b : Int) (hb : 1 ≤ b) : -b < Int.tmod a b ∧ Int.tmod a b < b := by
  have h : (Int.tmod a b).natAbs < b.natAbs := by rw [Int.natAbs_tmod]; exact Nat.mod_lt _ (by omega)
  omega
theorem ceil_eq (a b : Int) : impl_CeilDiv.f a b = some (cdOf a b) := by
  unfold impl_CeilDiv.f cdOf
  simp only [InRange_eq, Option.bind_some]
  by_cases c1 : 0 ≤ a ∧ a ≤ 1000000000000
  · by_cases c2 : 1 ≤ b ∧ b ≤ 1000000000000
    · have h0 : 0 ≤ (a + b - 1) / b := Int.ediv_nonneg (by omega) (by omega)
      have h1 : (a + b - 1) / b ≤ a + b - 1 := Int.ediv_le_self _ (by omega)
      simp only [decide_eq_true c1, decide_eq_true c2, if_true]
      rw [if_neg (by omega), if_pos ⟨c1, c2⟩, wrap_id (x := a + b) (by omega) (by omega), wrap_id (x := a + b - 1) (by omega) (by omega), Int.tdiv_eq_ediv_of_nonneg (by omega), wrap_id (by omega) (by omega)]
    · simp only [decide_eq_true c1, decide_eq_false c2, if_true, Bool.false_eq_true, if_false]
      rw [if_neg fun h => c2 h.2]
  · simp only [decide_eq_false c1, Bool.false_eq_true, if_false]
    rw [if_neg fun h => c1 h.1]
theorem mod_eq (a b : Int) : impl_Mod.f a b = some (mdOf a b) := by
  unfold impl_Mod.f mdOf
  simp only [InRange_eq, Option.bind_some]
  by_cases c : 1 ≤ b ∧ b ≤ 1000000000000
  · have h := tm_range a b c.1
    simp only [decide_eq_true c, if_true]
    rw [if_neg (by omega), if_pos c, wrap_id (by omega) (by omega), Int.tmod_eq_emod_of_nonneg (by omega)]
  · simp only [decide_eq_false c, Bool.false_eq_true, if_false]
    rw [if_neg c]
theorem j2_ev (a b : Int) (hb : 1 ≤ b ∧ b ≤ 1000000000000) : Ev (fun k => laws_FnIntegers.j2 k a b (cdOf a b) false) true := by
  have e : ∀ k, laws_FnIntegers.j2 (k + 1) a b (cdOf a b) false = some true := by
    intro k
    rw [laws_FnIntegers.j2.eq_2]
    simp only [Bool.false_eq_true, if_false]
    unfold cdOf
    by_cases c1 : a < 0
    · rw [if_pos c1, if_neg (by omega)]; rfl
    · by_cases c2 : a > 1000000000000
      · rw [if_neg c1, if_pos c2, if_neg (by omega)]; rfl
      · rw [if_neg c1, if_neg c2, if_pos (show (0 ≤ a ∧ a ≤ 1000000000000) ∧ (1 ≤ b ∧ b ≤ 1000000000000) from ⟨⟨by omega, by omega⟩, hb⟩)]
        have h1 := Int.mul_ediv_add_emod (a + b - 1) b
        have h2 := Int.emod_nonneg (a + b - 1) (show b ≠ 0 by omega)
        have h3 := Int.emod_lt_of_pos (a + b - 1) (show 0 < b by omega)
        rw [Int.mul_comm b] at h1
        generalize (a + b - 1) / b * b = q at *
        rw [wrap_id (x := q) (by omega) (by omega), if_pos (by omega), wrap_id (x := q - a) (by omega) (by omega), decide_eq_true (by omega)]
  exact Ev.step e (Ev.now true)
theorem j1_true (a b : Int) (hb : ¬ (1 ≤ b ∧ b ≤ 1000000000000)) : Ev (fun k => laws_FnIntegers.j1 k a b (cdOf a b) (mdOf a b) true) true := by
  have e : ∀ k, laws_FnIntegers.j1 (k + 1) a b (cdOf a b) (mdOf a b) true = some true := by
    intro k
    rw [laws_FnIntegers.j1.eq_2]
    have h1 : cdOf a b = 0 := by unfold cdOf; rw [if_neg fun h => hb h.2]
    have h2 : mdOf a b = 0 := by unfold mdOf; rw [if_neg hb]
    rw [h1, h2, if_pos rfl, if_pos rfl]
    rfl
  exact Ev.step e (Ev.now true)
theorem j0_ev (a b : Int) : Ev (fun k => laws_FnIntegers.j0 k a b (cdOf a b) (mdOf a b) false) true := by
  refine Ev.step (fun k => laws_FnIntegers.j0.eq_2 _ _ _ _ _ _) ?_
  simp only [Bool.false_eq_true, if_false]
  by_cases c1 : b < 1
  · simp only [if_pos c1]
    exact j1_true a b (by omega)
  · simp only [if_neg c1]
    by_cases c2 : b > 1000000000000
    · simp only [decide_eq_true c2]
      exact j1_true a b (by omega)
    · have hb : 1 ≤ b ∧ b ≤ 1000000000000 := by omega
      simp only [decide_eq_false c2]
      refine Ev.step (fun k => laws_FnIntegers.j1.eq_2 _ _ _ _ _ _) ?_
      have hm : mdOf a b = (Int.tmod a b + b) % b := by unfold mdOf; rw [if_pos hb]
      have r := tm_range a b hb.1
      have h2 := Int.emod_nonneg (Int.tmod a b + b) (show b ≠ 0 by omega)
      have h3 := Int.emod_lt_of_pos (Int.tmod a b + b) (show 0 < b by omega)
      simp only [Bool.false_eq_true, if_false, hm, if_neg (show ¬ ((Int.tmod a b + b) % b < 0) by omega), if_neg (show ¬ ((Int.tmod a b + b) % b ≥ b) by omega), if_neg (show ¬ (b = 0) by omega)]
      have z : Int.tmod (wrap64 (Int.tmod a b - (Int.tmod a b + b) % b)) b = 0 := by
        rw [wrap_id (by omega) (by omega)]
        by_cases c : 0 ≤ Int.tmod a b
        · have : (Int.tmod a b + b) % b = Int.tmod a b := by rw [Int.add_emod_right, Int.emod_eq_of_lt c r.2]
          rw [this, Int.sub_self]
          exact Int.zero_tmod b
        · have : (Int.tmod a b + b) % b = Int.tmod a b + b := Int.emod_eq_of_lt (by omega) (by omega)
          rw [this, show Int.tmod a b - (Int.tmod a b + b) = -b by omega, Int.neg_tmod, Int.tmod_self]
          rfl
      simp only [z, bne_self_eq_false]
      exact j2_ev a b hb
theorem back_ev (m : Int) (m0 : -9223372036854775808 ≤ m) (m1 : m ≤ 9223372036854775807) : ∃ k' , Ev (fun k => impl_ParseInt.f k ⟨(Lib.itoa m).toArray⟩) (k', decide (0 ≤ m ∧ m ≤ 1000000000000)) ∧ ((0 ≤ m ∧ m ≤ 1000000000000) → k' = m) := by
  by_cases c : 0 ≤ m ∧ m ≤ 1000000000000
  · rw [decide_eq_true c]
    exact ⟨m, parseI_itoa m c.1 c.2, fun _ => rfl⟩
  · obtain ⟨n, ok, e, r⟩ := parseI_ok ⟨(Lib.itoa m).toArray⟩
    rw [tl] at r
    cases ok with
    | false => rw [decide_eq_false c]; exact ⟨n, e, fun h => absurd h c⟩
    | true =>
      obtain ⟨n0, n1, h⟩ := r rfl
      have := itoa_inj n m n0 h
      omega
theorem FnIntegers : laws_FnIntegers.Pure := by
  intro l0 _ _ _
  refine Ev.rounds ?_
  unfold laws_FnIntegers.f
  simp only [big_eq, Option.bind_some]
  by_cases cb : (l0.length : Int) > 1048576
  · simp only [decide_eq_true cb, if_true]; exact Ev.now true
  have b_l0 : l0.length ≤ 1048576 := by omega
  simp only [decide_eq_false cb, Bool.false_eq_true, if_false]
  obtain ⟨s, e1⟩ := drawParse_ev l0 b_l0
  obtain ⟨n, ok, e2, r⟩ := parseI_ok s
  obtain ⟨m, e3, m0, m1⟩ := drawFmt_ev l0 b_l0
  obtain ⟨k', e4, r4⟩ := back_ev m m0 m1
  obtain ⟨a, b, e5⟩ := drawCeil_ev l0 b_l0
  refine Ev.bind e1 ?_
  refine Ev.bind e2 ?_
  refine Ev.bind e3 ?_
  simp only [fmtI_eq m m0 m1, Option.bind_some]
  refine Ev.bind e4 ?_
  refine Ev.bind e5 ?_
  simp only [ceil_eq, mod_eq, Option.bind_some]
  have hj := j0_ev a b
  have T : Ev (fun k => (if m ≥ 0 then (if ((decide (0 ≤ m ∧ m ≤ 1000000000000)) != (decide (m ≤ 1000000000000))) = true then (laws_FnIntegers.j0 k a b (cdOf a b) (mdOf a b) true) else (if (decide (0 ≤ m ∧ m ≤ 1000000000000)) = true then (laws_FnIntegers.j0 k a b (cdOf a b) (mdOf a b) (k' != m)) else (laws_FnIntegers.j0 k a b (cdOf a b) (mdOf a b) false))) else (if ((decide (0 ≤ m ∧ m ≤ 1000000000000)) != false) = true then (laws_FnIntegers.j0 k a b (cdOf a b) (mdOf a b) true) else (if (decide (0 ≤ m ∧ m ≤ 1000000000000)) = true then (laws_FnIntegers.j0 k a b (cdOf a b) (mdOf a b) (k' != m)) else (laws_FnIntegers.j0 k a b (cdOf a b) (mdOf a b) false))))) true := by
    by_cases c0 : m ≥ 0
    · by_cases c1 : m ≤ 1000000000000
      · have := r4 ⟨c0, c1⟩
        subst this
        simp only [if_pos c0, decide_eq_true (show 0 ≤ k' ∧ k' ≤ 1000000000000 from ⟨c0, c1⟩), decide_eq_true c1, bne_self_eq_false, Bool.false_eq_true, if_false, if_true]
        exact hj
      · simp only [if_pos c0, decide_eq_false (show ¬ (0 ≤ m ∧ m ≤ 1000000000000) by omega), decide_eq_false c1, bne_self_eq_false, Bool.false_eq_true, if_false]
        exact hj
    · simp only [if_neg c0, decide_eq_false (show ¬ (0 ≤ m ∧ m ≤ 1000000000000) by omega), bne_self_eq_false, Bool.false_eq_true, if_false]
      exact hj
  cases ok with
  | false =>
    simp only [Bool.false_eq_true, if_false]
    simpa only [Bool.false_eq_true] using T
  | true =>
    obtain ⟨n0, n1, hn⟩ := r rfl
    simp only [if_true, fmtI_eq n (by omega) (by omega), Option.bind_some, tl, if_pos hn]
    exact T

end Go.Proofs.YticigcjojpdapaaDoor.Pure
