/-
  For all arguments, the program's ParseInt returns what the reference's ParseInt returns.
  Conditions: none beside the given statement's own.
-/
import Derived.Test.YticigcjojpdapaaDoorPFnExactParseIntx2
set_option linter.unusedSimpArgs false
set_option linter.unusedVariables false
namespace Go.Proofs.YticigcjojpdapaaDoor.Pure
open Go.RowKit Go.Proofs.YticigcjojpdapaaDoor.PFnExactParseInt Go.Proofs.YticigcjojpdapaaDoorW.PrintWords Go.Proofs.YticigcjojpdapaaDoorW.PrintLast Go.Proofs.YticigcjojpdapaaDoorW.PrintMore

theorem wrap_id {x : Int} (h1 : -9223372036854775808 ≤ x) (h2 : x < 9223372036854775808) : wrap64 x = x := by unfold wrap64; omega
theorem rd_nat (l : List Int) (i : Nat) (h : i < l.length) : rd l (i : Int) = l[i] := by
  unfold rd; rw [Int.toNat_natCast, List.getD_eq_getElem?_getD, List.getElem?_eq_getElem h]; rfl
theorem wf64 {x : Int} (h : (Lit.int .i64 x).wf = true) : -9223372036854775808 ≤ x ∧ x < 9223372036854775808 := by
  have h1 : IntKind.i64.min = -9223372036854775808 := by decide
  have h2 : IntKind.i64.max = 9223372036854775807 := by decide
  simp only [Lit.wf, h1, h2, Bool.and_eq_true, decide_eq_true_eq] at h
  omega
theorem wf8 {x : Int} (h : (Lit.int .u8 x).wf = true) : 0 ≤ x ∧ x < 256 := by
  have h1 : IntKind.u8.min = 0 := by decide
  have h2 : IntKind.u8.max = 255 := by decide
  simp only [Lit.wf, h1, h2, Bool.and_eq_true, decide_eq_true_eq] at h
  omega
theorem set_take (l x : List Int) (i : Nat) (h : i < l.length) (hx : x.length = l.length) (ht : x.take i = l.take i) : (x.set i l[i]).take (i + 1) = l.take (i + 1) := by
  apply List.ext_getElem?
  intro j
  simp only [List.getElem?_take, List.getElem?_set]
  have hj : (x.take i)[j]? = (l.take i)[j]? := by rw [ht]
  simp only [List.getElem?_take] at hj
  by_cases h1 : j < i + 1
  · rw [if_pos h1, if_pos h1]
    by_cases h2 : i = j
    · subst h2; rw [if_pos rfl, if_pos (by omega), List.getElem?_eq_getElem h]
    · rw [if_neg h2]; rw [if_pos (by omega), if_pos (by omega)] at hj; exact hj
  · rw [if_neg h1, if_neg h1]
theorem drop_eq_cons (l : List Int) (i : Nat) (h : i < l.length) : l.drop i = l[i] :: l.drop (i + 1) := List.drop_eq_getElem_cons h
theorem cons_iff {a b : Int} (e : a = b) (l x : List Int) : (a :: l = b :: x) ↔ l = x := by
  rw [e]
  exact ⟨fun h => (List.cons.inj h).2, fun h => by rw [h]⟩
theorem take_full (l x : List Int) (i : Nat) (hi : l.length ≤ i) (hx : x.length = l.length) (ht : x.take i = l.take i) : x = l := by
  rwa [List.take_of_length_le (by omega), List.take_of_length_le hi] at ht

theorem l1In_eq (a b c : Int) : spec_l1In.f a b c = some (decide (b ≤ a ∧ a ≤ c)) := by
  unfold spec_l1In.f
  by_cases h : a ≥ b
  · rw [if_pos h]; congr 1; by_cases h2 : a ≤ c <;> simp [h2] <;> omega
  · rw [if_neg h]; congr 1; simp; omega

def dl (v : Nat) : List UInt8 := if h : v = 0 then [] else dl (v / 10) ++ [UInt8.ofNat (48 + v % 10)]
termination_by v
decreasing_by omega
theorem dl_zero : dl 0 = [] := by rw [dl, dif_pos rfl]
theorem dl_pos {v : Nat} (h : v ≠ 0) : dl v = dl (v / 10) ++ [UInt8.ofNat (48 + v % 10)] := by rw [dl, dif_neg h]
theorem dec_dl : ∀ v : Nat, v ≠ 0 → Lib.decDigits v = dl v := by
  intro v
  induction v using Nat.strongRecOn with
  | ind v ih =>
    intro h
    by_cases c : v < 10
    · rw [dl_pos h, Nat.div_eq_of_lt c, dl_zero, Lib.decDigits_one c, Nat.mod_eq_of_lt c]
      rfl
    · rw [dl_pos h, Lib.decDigits, dif_neg c, ih (v / 10) (by omega) (by omega)]
theorem app_lists (a b : List UInt8) : (⟨a.toArray⟩ : ByteArray) ++ (⟨b.toArray⟩ : ByteArray) = ⟨(a ++ b).toArray⟩ := by
  apply ByteArray.ext
  rw [ByteArray.data_append]
  simp
theorem size_list (a : List UInt8) : (⟨a.toArray⟩ : ByteArray).size = a.length := by simp [ByteArray.size]
theorem digit (x : Int) (v : Nat) (hv : x.natAbs = v) : (Int.tmod x 10).natAbs = v % 10 := by
  rw [Int.natAbs_tmod, hv]; rfl
theorem one_digit (v : Nat) : strOfNums [((48 + v % 10 : Nat) : Int) % 256] = (⟨[UInt8.ofNat (48 + v % 10)].toArray⟩ : ByteArray) := by
  have e : ((48 + v % 10 : Nat) : Int) % 256 = ((48 + v % 10 : Nat) : Int) := Int.emod_eq_of_lt (by omega) (by omega)
  rw [e]
  rfl
theorem fmt_l0 (n : Nat) : ∀ (x : Int) (l : List UInt8) (a0 : Int), x.natAbs < 10 ^ n → n + l.length ≤ 1000 → -9223372036854775808 ≤ x → x ≤ 9223372036854775807 →
    Ev (fun k => spec_FormatInt.l0 k a0 ⟨l.toArray⟩ x) ⟨((if a0 < 0 then [45] else []) ++ (dl x.natAbs ++ l)).toArray⟩ := by
  have stop : ∀ (l : List UInt8) (a0 : Int), l.length ≤ 1000 → Ev (fun k => spec_FormatInt.l0 k a0 ⟨l.toArray⟩ 0) ⟨((if a0 < 0 then [45] else []) ++ l).toArray⟩ := by
    intro l a0 hl
    by_cases c : a0 < 0
    · refine Ev.step (f := fun _ => some (⟨([45] ++ l).toArray⟩ : ByteArray)) (fun k => ?_) (by rw [if_pos c]; exact Ev.now _)
      simp only [spec_FormatInt.l0]
      rw [if_pos trivial, if_pos c, size_list, if_pos (by omega)]
      rw [← app_lists]
    · refine Ev.step (f := fun _ => some (⟨l.toArray⟩ : ByteArray)) (fun k => ?_) (by rw [if_neg c]; exact Ev.now _)
      simp only [spec_FormatInt.l0]
      rw [if_pos trivial, if_neg c]
  induction n with
  | zero =>
    intro x l a0 hx hl _ _
    have h0 : x = 0 := by have : x.natAbs < 1 := hx; omega
    subst h0
    have := stop l a0 (by omega)
    simpa [dl_zero] using this
  | succ n ih =>
    intro x l a0 hx hl hb0 hb1
    by_cases h0 : x = 0
    · subst h0
      have := stop l a0 (by omega)
      simpa [dl_zero] using this
    · have hv : x.natAbs ≠ 0 := by omega
      have hd := digit x x.natAbs rfl
      have hq : (Int.tdiv x 10).natAbs = x.natAbs / 10 := by rw [Int.natAbs_tdiv]; rfl
      have hw : wrap64 (Int.tdiv x 10) = Int.tdiv x 10 := wrap_id (by omega) (by omega)
      have hp : x.natAbs / 10 < 10 ^ n := by rw [Nat.pow_succ] at hx; omega
      have key := ih (Int.tdiv x 10) (UInt8.ofNat (48 + x.natAbs % 10) :: l) a0 (by rw [hq]; exact hp) (by simp only [List.length_cons]; omega) (by omega) (by omega)
      rw [hq] at key
      have e : dl x.natAbs ++ l = dl (x.natAbs / 10) ++ (UInt8.ofNat (48 + x.natAbs % 10) :: l) := by rw [dl_pos hv, List.append_assoc]; rfl
      rw [e]
      refine Ev.step (fun k => ?_) key
      simp only [spec_FormatInt.l0]
      rw [if_neg h0]
      by_cases c : Int.tmod x 10 < 0
      · have e1 : wrap64 (48 + wrap64 (-(Int.tmod x 10))) = ((48 + x.natAbs % 10 : Nat) : Int) := by
          rw [wrap_id (x := -(Int.tmod x 10)) (by omega) (by omega), wrap_id (by omega) (by omega)]
          omega
        rw [if_pos c, e1, Option.bind_some, one_digit, size_list, size_list, if_pos (by simp only [List.length_cons, List.length_nil]; omega), hw, app_lists]
        rfl
      · have e1 : wrap64 (48 + Int.tmod x 10) = ((48 + x.natAbs % 10 : Nat) : Int) := by
          rw [wrap_id (by omega) (by omega)]
          omega
        rw [if_neg c, e1, Option.bind_some, one_digit, size_list, size_list, if_pos (by simp only [List.length_cons, List.length_nil]; omega), hw, app_lists]
        rfl
theorem fmtS_ev (a : Int) (h0 : -9223372036854775808 ≤ a) (h1 : a ≤ 9223372036854775807) : Ev (fun k => spec_FormatInt.f k a) ⟨(Lib.itoa a).toArray⟩ := by
  unfold spec_FormatInt.f
  by_cases c : a = 0
  · subst c
    simp only [if_pos rfl]
    have e : (⟨(Lib.itoa 0).toArray⟩ : ByteArray) = ⟨#[48]⟩ := by
      unfold Lib.itoa
      rw [if_neg (by decide), show (0 : Int).toNat = 0 from rfl, Lib.decDigits_one (by decide)]
      rfl
    rw [e]
    exact Ev.now _
  · simp only [if_neg c]
    have key := fmt_l0 19 a [] a (by have : a.natAbs ≤ 9223372036854775808 := by omega
                                     have e : (10 : Nat) ^ 19 = 10000000000000000000 := by decide
                                     omega) (by simp) h0 h1
    have e : Lib.itoa a = (if a < 0 then [45] else []) ++ (dl a.natAbs ++ []) := by
      unfold Lib.itoa
      rw [List.append_nil, ← dec_dl a.natAbs (by omega)]
      by_cases h : a < 0
      · rw [if_pos h, if_pos h]; rfl
      · rw [if_neg h, if_neg h, show a.toNat = a.natAbs by omega]; rfl
    rw [e]
    exact key
theorem itoa_eq (a : Int) (h0 : -9223372036854775808 ≤ a) (h1 : a ≤ 9223372036854775807) : strconv_Itoa_26.f a = some ⟨(Lib.itoa a).toArray⟩ := by
  unfold strconv_Itoa_26.f
  rw [if_pos ⟨h0, h1⟩]
theorem fmtI_eq (a : Int) (h0 : -9223372036854775808 ≤ a) (h1 : a ≤ 9223372036854775807) : impl_FormatInt.f a = some ⟨(Lib.itoa a).toArray⟩ := by
  unfold impl_FormatInt.f
  rw [itoa_eq a h0 h1]
  rfl

def okDigit (b : Int) : Bool := decide (48 ≤ b ∧ b ≤ 57)
theorem parse_both (s : ByteArray) (hs : s.size ≤ 13) (d : Nat) : ∀ (i : Nat) (x : Int), i + d = s.size → 0 ≤ x → x < ((10 ^ i : Nat) : Int) →
    ∃ r, Ev (fun k => spec_ParseInt.l0 k s x (i : Int)) r ∧ Ev (fun k => impl_ParseInt.l0 k s x (s.size : Int) (i : Int)) r := by
  have p13 : (10 : Nat) ^ 13 = 10000000000000 := by decide
  induction d with
  | zero =>
    intro i x hi h0 h1
    have hp : (10 : Nat) ^ i ≤ 10 ^ 13 := Nat.pow_le_pow_right (by decide) (by omega)
    by_cases c : x > 1000000000000
    · refine ⟨(0, false), Ev.step (f := fun _ => some (0, false)) (fun k => ?_) (Ev.now _), Ev.step (f := fun _ => some (0, false)) (fun k => ?_) (Ev.now _)⟩
      · simp only [spec_ParseInt.l0]
        rw [if_neg (by omega), if_pos c]
      · simp only [impl_ParseInt.l0]
        rw [if_neg (by omega), if_pos c]
    · have hS := fmtS_ev x (by omega) (by omega)
      have hI := fmtI_eq x (by omega) (by omega)
      refine ⟨if (⟨(Lib.itoa x).toArray⟩ : ByteArray).toList = s.toList then (x, true) else (0, false), ?_, ?_⟩
      · refine Ev.step (f := fun k => (spec_FormatInt.f k x).bind fun t109 => (if t109.toList = s.toList then (some (x, true)) else (some (0, false)))) (fun k => ?_) (Ev.bind hS (by split <;> exact Ev.now _))
        simp only [spec_ParseInt.l0]
        rw [if_neg (by omega), if_neg c]
      · refine Ev.step (f := fun k => if (⟨(Lib.itoa x).toArray⟩ : ByteArray).toList = s.toList then (some (x, true)) else (some (0, false))) (fun k => ?_) (by split <;> exact Ev.now _)
        simp only [impl_ParseInt.l0]
        rw [if_neg (by omega), if_neg c, hI]
        rfl
  | succ d ih =>
    intro i x hi h0 h1
    have hp : (10 : Nat) ^ i ≤ 10 ^ 12 := Nat.pow_le_pow_right (by decide) (by omega)
    have p12 : (10 : Nat) ^ 12 = 1000000000000 := by decide
    have hb := bt_range s (i : Int)
    have w1 : wrap64 (bt s (i : Int)) = bt s (i : Int) := wrap_id (by omega) (by omega)
    by_cases c : 48 ≤ bt s (i : Int) ∧ bt s (i : Int) ≤ 57
    · have hd : (bt s (i : Int) - 48) % 256 = bt s (i : Int) - 48 := Int.emod_eq_of_lt (by omega) (by omega)
      have hq : (10 : Nat) ^ (i + 1) = 10 ^ i * 10 := Nat.pow_succ 10 i
      obtain ⟨r, e1, e2⟩ := ih (i + 1) (10 * x + (bt s (i : Int) - 48)) (by omega) (by omega) (by rw [hq]; omega)
      refine ⟨r, Ev.step (fun k => ?_) e1, Ev.step (fun k => ?_) e2⟩
      · simp only [spec_ParseInt.l0]
        rw [if_pos (by omega), if_pos (by omega), w1, l1In_eq, Option.bind_some, decide_eq_true c, if_pos rfl, hd, wrap_id (x := 10 * x) (by omega) (by omega), wrap_id (x := 10 * x + (bt s (i : Int) - 48)) (by omega) (by omega), wrap_id (x := (i : Int) + 1) (by omega) (by omega)]
        rfl
      · simp only [impl_ParseInt.l0]
        rw [if_pos (by omega), if_pos (by omega), if_pos (by omega), if_neg (by omega), if_neg (by omega), hd, Int.mul_comm x 10, wrap_id (x := 10 * x) (by omega) (by omega), wrap_id (x := 10 * x + (bt s (i : Int) - 48)) (by omega) (by omega), wrap_id (x := (i : Int) + 1) (by omega) (by omega)]
        rfl
    · refine ⟨(0, false), Ev.step (f := fun _ => some (0, false)) (fun k => ?_) (Ev.now _), Ev.step (f := fun _ => some (0, false)) (fun k => ?_) (Ev.now _)⟩
      · simp only [spec_ParseInt.l0]
        rw [if_pos (by omega), if_pos (by omega), w1, l1In_eq, Option.bind_some, decide_eq_false c]
        rfl
      · simp only [impl_ParseInt.l0]
        rw [if_pos (by omega), if_pos (by omega), if_pos (by omega)]
        by_cases c1 : bt s (i : Int) < 48
        · rw [if_pos c1]
        · rw [if_neg c1, if_pos (by omega)]
theorem parse_ev (s : ByteArray) : ∃ r, Ev (fun k => spec_ParseInt.f k s) r ∧ Ev (fun k => impl_ParseInt.f k s) r := by
  unfold spec_ParseInt.f impl_ParseInt.f
  by_cases c0 : (s.size : Int) = 0
  · refine ⟨(0, false), ?_, ?_⟩
    · simp only [l1In_eq, Option.bind_some, decide_eq_false (show ¬ (1 ≤ (s.size : Int) ∧ (s.size : Int) ≤ 13) by omega), Bool.false_eq_true, if_false]
      exact Ev.now _
    · simp only [if_pos c0]
      refine Ev.step (fun k => impl_ParseInt.j0.eq_2 _ _ _) ?_
      simp only [if_true]
      exact Ev.now _
  · by_cases c1 : (s.size : Int) > 13
    · refine ⟨(0, false), ?_, ?_⟩
      · simp only [l1In_eq, Option.bind_some, decide_eq_false (show ¬ (1 ≤ (s.size : Int) ∧ (s.size : Int) ≤ 13) by omega), Bool.false_eq_true, if_false]
        exact Ev.now _
      · simp only [if_neg c0, decide_eq_true c1]
        refine Ev.step (fun k => impl_ParseInt.j0.eq_2 _ _ _) ?_
        simp only [if_true]
        exact Ev.now _
    · obtain ⟨r, e1, e2⟩ := parse_both s (by omega) s.size 0 0 (by omega) (by omega) (by decide)
      refine ⟨r, ?_, ?_⟩
      · simp only [l1In_eq, Option.bind_some, decide_eq_true (show (1 ≤ (s.size : Int) ∧ (s.size : Int) ≤ 13) by omega), if_true]
        exact e1
      · simp only [if_neg c0, decide_eq_false c1]
        refine Ev.step (fun k => impl_ParseInt.j0.eq_2 _ _ _) ?_
        simp only [Bool.false_eq_true, if_false]
        exact e2

theorem FnExactParseInt : laws_FnExactParseInt.Pure := by
  intro s _
  refine Ev.rounds ?_
  unfold laws_FnExactParseInt.f
  by_cases c : (s.size : Int) > 1048576
  · simp only [if_pos c]
    exact Ev.now true
  · simp only [if_neg c]
    obtain ⟨r, e1, e2⟩ := parse_ev s
    refine Ev.bind e1 ?_
    refine Ev.bind e2 ?_
    simp only [if_true, bne_self_eq_false, Bool.false_eq_true, if_false]
    exact Ev.now true

end Go.Proofs.YticigcjojpdapaaDoor.Pure
