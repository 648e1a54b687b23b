/-
  For all arguments, the program's FormatRatio returns what the reference's FormatRatio returns.
  Conditions: none beside the given statement's own.
-/
import Derived.Test.YticigcjojpdapaaDoorPFnExactFormatRatiox2
set_option linter.unusedSimpArgs false
set_option linter.unusedVariables false
namespace Go.Proofs.YticigcjojpdapaaDoor.Pure
open Go.RowKit Go.Proofs.YticigcjojpdapaaDoor.PFnExactFormatRatio Go.Proofs.YticigcjojpdapaaDoorW.PrintWords Go.Proofs.YticigcjojpdapaaDoorW.PrintLast Go.Proofs.YticigcjojpdapaaDoorW.PrintMore

theorem wrap_id {x : Int} (h1 : -9223372036854775808 ≤ x) (h2 : x < 9223372036854775808) : wrap64 x = x := by unfold wrap64; omega
theorem rd_nat (l : List Int) (i : Nat) (h : i < l.length) : rd l (i : Int) = l[i] := by
  unfold rd; rw [Int.toNat_natCast, List.getD_eq_getElem?_getD, List.getElem?_eq_getElem h]; rfl
theorem wf64 {x : Int} (h : (Lit.int .i64 x).wf = true) : -9223372036854775808 ≤ x ∧ x < 9223372036854775808 := by
  have h1 : IntKind.i64.min = -9223372036854775808 := by decide
  have h2 : IntKind.i64.max = 9223372036854775807 := by decide
  simp only [Lit.wf, h1, h2, Bool.and_eq_true, decide_eq_true_eq] at h
  omega
theorem wf8 {x : Int} (h : (Lit.int .u8 x).wf = true) : 0 ≤ x ∧ x < 256 := by
  have h1 : IntKind.u8.min = 0 := by decide
  have h2 : IntKind.u8.max = 255 := by decide
  simp only [Lit.wf, h1, h2, Bool.and_eq_true, decide_eq_true_eq] at h
  omega
theorem set_take (l x : List Int) (i : Nat) (h : i < l.length) (hx : x.length = l.length) (ht : x.take i = l.take i) : (x.set i l[i]).take (i + 1) = l.take (i + 1) := by
  apply List.ext_getElem?
  intro j
  simp only [List.getElem?_take, List.getElem?_set]
  have hj : (x.take i)[j]? = (l.take i)[j]? := by rw [ht]
  simp only [List.getElem?_take] at hj
  by_cases h1 : j < i + 1
  · rw [if_pos h1, if_pos h1]
    by_cases h2 : i = j
    · subst h2; rw [if_pos rfl, if_pos (by omega), List.getElem?_eq_getElem h]
    · rw [if_neg h2]; rw [if_pos (by omega), if_pos (by omega)] at hj; exact hj
  · rw [if_neg h1, if_neg h1]
theorem drop_eq_cons (l : List Int) (i : Nat) (h : i < l.length) : l.drop i = l[i] :: l.drop (i + 1) := List.drop_eq_getElem_cons h
theorem cons_iff {a b : Int} (e : a = b) (l x : List Int) : (a :: l = b :: x) ↔ l = x := by
  rw [e]
  exact ⟨fun h => (List.cons.inj h).2, fun h => by rw [h]⟩
theorem take_full (l x : List Int) (i : Nat) (hi : l.length ≤ i) (hx : x.length = l.length) (ht : x.take i = l.take i) : x = l := by
  rwa [List.take_of_length_le (by omega), List.take_of_length_le hi] at ht

theorem l1In_eq (a b c : Int) : spec_l1In.f a b c = some (decide (b ≤ a ∧ a ≤ c)) := by
  unfold spec_l1In.f
  by_cases h : a ≥ b
  · rw [if_pos h]; congr 1; by_cases h2 : a ≤ c <;> simp [h2] <;> omega
  · rw [if_neg h]; congr 1; simp; omega
theorem InRange_eq (a b c : Int) : impl_InRange.f a b c = some (decide (b ≤ a ∧ a ≤ c)) := by
  unfold impl_InRange.f
  by_cases h : b ≤ a
  · rw [if_pos h]; congr 1; by_cases h2 : a ≤ c <;> simp [h2] <;> omega
  · rw [if_neg h]; congr 1; simp; omega

theorem impl_gcd_l0 (b : Nat) : ∀ a : Nat, Ev (fun k => impl_gcd.l0 k (a : Int) (b : Int)) ((Nat.gcd a b : Nat) : Int) := by
  induction b using Nat.strongRecOn with
  | ind b ih =>
    intro a
    by_cases h : b = 0
    · subst h
      refine Ev.step (f := fun _ => some (a : Int)) (fun k => ?_) (by simpa using Ev.now (a : Int))
      simp only [impl_gcd.l0]
      rw [if_pos (by omega)]
    · have hg : Nat.gcd a b = Nat.gcd b (a % b) := by rw [Nat.gcd_comm a b, Nat.gcd_rec b a, Nat.gcd_comm]
      rw [hg]
      refine Ev.step (f := fun k => impl_gcd.l0 k (b : Int) ((a % b : Nat) : Int)) (fun k => ?_) (ih (a % b) (Nat.mod_lt _ (by omega)) b)
      simp only [impl_gcd.l0]
      rw [if_neg (by omega), Int.tmod_eq_emod_of_nonneg (by omega)]
      rfl

theorem spec_l4Gcd_l0 (b : Nat) : ∀ a : Nat, Ev (fun k => spec_l4Gcd.l0 k (a : Int) (b : Int)) ((Nat.gcd a b : Nat) : Int) := by
  induction b using Nat.strongRecOn with
  | ind b ih =>
    intro a
    by_cases h : b = 0
    · subst h
      refine Ev.step (f := fun _ => some (a : Int)) (fun k => ?_) (by simpa using Ev.now (a : Int))
      simp only [spec_l4Gcd.l0]
      rw [if_neg (by omega)]
    · have hg : Nat.gcd a b = Nat.gcd b (a % b) := by rw [Nat.gcd_comm a b, Nat.gcd_rec b a, Nat.gcd_comm]
      rw [hg]
      refine Ev.step (f := fun k => spec_l4Gcd.l0 k (b : Int) ((a % b : Nat) : Int)) (fun k => ?_) (ih (a % b) (Nat.mod_lt _ (by omega)) b)
      simp only [spec_l4Gcd.l0]
      rw [if_pos (by omega), if_neg (by omega), Int.tmod_eq_emod_of_nonneg (by omega)]
      rfl

theorem gcdI_ev (a b : Int) (ha : -9223372036854775808 < a) (ha' : a < 9223372036854775808) (hb : -9223372036854775808 < b) (hb' : b < 9223372036854775808) : Ev (fun k => impl_gcd.f k a b) ((Int.gcd a b : Nat) : Int) := by
  have h0 : Ev (fun k => impl_gcd.j0 k ((a.natAbs : Nat) : Int) b) ((Int.gcd a b : Nat) : Int) := by
    refine Ev.step (f := fun k => impl_gcd.j1 k ((a.natAbs : Nat) : Int) ((b.natAbs : Nat) : Int)) (fun k => ?_) (Ev.step (fun k => impl_gcd.j1.eq_2 _ _ _) (impl_gcd_l0 b.natAbs a.natAbs))
    simp only [impl_gcd.j0]
    by_cases h : b < 0
    · rw [if_pos h, wrap_id (by omega) (by omega), show -b = ((b.natAbs : Nat) : Int) by omega]
    · rw [if_neg h, show (b.natAbs : Int) = b by omega]
  unfold impl_gcd.f
  by_cases h : a < 0
  · simp only [if_pos h]
    rw [wrap_id (by omega) (by omega), show -a = ((a.natAbs : Nat) : Int) by omega]
    exact h0
  · simp only [if_neg h]
    rw [show (a.natAbs : Int) = a by omega] at h0
    exact h0
theorem absS (a : Int) (ha : -9223372036854775808 < a) (ha' : a < 9223372036854775808) : spec_Max.f a (wrap64 (-a)) = some ((a.natAbs : Nat) : Int) := by
  unfold spec_Max.f
  rw [wrap_id (by omega) (by omega)]
  by_cases h : -a > a
  · rw [if_pos h]; congr 1; omega
  · rw [if_neg h]; congr 1; omega
theorem gcdS_ev (a b : Int) (ha : -9223372036854775808 < a) (ha' : a < 9223372036854775808) (hb : -9223372036854775808 < b) (hb' : b < 9223372036854775808) : Ev (fun k => spec_l4Gcd.f k a b) ((Int.gcd a b : Nat) : Int) := by
  unfold spec_l4Gcd.f
  simp only [absS a ha ha', absS b hb hb', Option.bind_some]
  exact spec_l4Gcd_l0 b.natAbs a.natAbs
def isR (n d : Int) : Bool := decide ((-1000000000 ≤ n ∧ n ≤ 1000000000) ∧ (1 ≤ d ∧ d ≤ 1000000000) ∧ ((Int.gcd n d : Nat) : Int) = 1)
theorem isRI_ev (n d : Int) : Ev (fun k => impl_IsRatio.f k n d) (isR n d) := by
  unfold impl_IsRatio.f isR
  simp only [InRange_eq, Option.bind_some]
  by_cases c1 : -1000000000 ≤ n ∧ n ≤ 1000000000
  · by_cases c2 : 1 ≤ d ∧ d ≤ 1000000000
    · simp only [decide_eq_true c1, decide_eq_true c2, if_true]
      refine Ev.bind (gcdI_ev n d (by omega) (by omega) (by omega) (by omega)) ?_
      have e : (((Int.gcd n d : Nat) : Int) == 1) = decide ((-1000000000 ≤ n ∧ n ≤ 1000000000) ∧ (1 ≤ d ∧ d ≤ 1000000000) ∧ ((Int.gcd n d : Nat) : Int) = 1) := by
        rw [Bool.eq_iff_iff, beq_iff_eq, decide_eq_true_iff]
        exact ⟨fun h => ⟨c1, c2, h⟩, fun h => h.2.2⟩
      rw [e]
      exact Ev.now _
    · simp only [decide_eq_true c1, decide_eq_false c2, if_true, Bool.false_eq_true, if_false]
      rw [decide_eq_false fun h => c2 h.2.1]
      exact Ev.now _
  · simp only [decide_eq_false c1, Bool.false_eq_true, if_false]
    rw [decide_eq_false fun h => c1 h.1]
    exact Ev.now _
theorem isRS_ev (n d : Int) : Ev (fun k => spec_IsRatio.f k n d) (isR n d) := by
  unfold spec_IsRatio.f isR
  simp only [l1In_eq, Option.bind_some]
  by_cases c1 : -1000000000 ≤ n ∧ n ≤ 1000000000
  · by_cases c2 : 1 ≤ d ∧ d ≤ 1000000000
    · simp only [decide_eq_true c1, decide_eq_true c2, if_true]
      refine Ev.bind (gcdS_ev n d (by omega) (by omega) (by omega) (by omega)) ?_
      have e : (((Int.gcd n d : Nat) : Int) == 1) = decide ((-1000000000 ≤ n ∧ n ≤ 1000000000) ∧ (1 ≤ d ∧ d ≤ 1000000000) ∧ ((Int.gcd n d : Nat) : Int) = 1) := by
        rw [Bool.eq_iff_iff, beq_iff_eq, decide_eq_true_iff]
        exact ⟨fun h => ⟨c1, c2, h⟩, fun h => h.2.2⟩
      rw [e]
      exact Ev.now _
    · simp only [decide_eq_true c1, decide_eq_false c2, if_true, Bool.false_eq_true, if_false]
      rw [decide_eq_false fun h => c2 h.2.1]
      exact Ev.now _
  · simp only [decide_eq_false c1, Bool.false_eq_true, if_false]
    rw [decide_eq_false fun h => c1 h.1]
    exact Ev.now _
theorem isR_iff (n d : Int) : isR n d = true ↔ (-1000000000 ≤ n ∧ n ≤ 1000000000) ∧ (1 ≤ d ∧ d ≤ 1000000000) ∧ ((Int.gcd n d : Nat) : Int) = 1 := by
  unfold isR
  rw [decide_eq_true_iff]

def dl (v : Nat) : List UInt8 := if h : v = 0 then [] else dl (v / 10) ++ [UInt8.ofNat (48 + v % 10)]
termination_by v
decreasing_by omega
theorem dl_zero : dl 0 = [] := by rw [dl, dif_pos rfl]
theorem dl_pos {v : Nat} (h : v ≠ 0) : dl v = dl (v / 10) ++ [UInt8.ofNat (48 + v % 10)] := by rw [dl, dif_neg h]
theorem dec_dl : ∀ v : Nat, v ≠ 0 → Lib.decDigits v = dl v := by
  intro v
  induction v using Nat.strongRecOn with
  | ind v ih =>
    intro h
    by_cases c : v < 10
    · rw [dl_pos h, Nat.div_eq_of_lt c, dl_zero, Lib.decDigits_one c, Nat.mod_eq_of_lt c]
      rfl
    · rw [dl_pos h, Lib.decDigits, dif_neg c, ih (v / 10) (by omega) (by omega)]
theorem app_lists (a b : List UInt8) : (⟨a.toArray⟩ : ByteArray) ++ (⟨b.toArray⟩ : ByteArray) = ⟨(a ++ b).toArray⟩ := by
  apply ByteArray.ext
  rw [ByteArray.data_append]
  simp
theorem size_list (a : List UInt8) : (⟨a.toArray⟩ : ByteArray).size = a.length := by simp [ByteArray.size]
theorem digit (x : Int) (v : Nat) (hv : x.natAbs = v) : (Int.tmod x 10).natAbs = v % 10 := by
  rw [Int.natAbs_tmod, hv]; rfl
theorem one_digit (v : Nat) : strOfNums [((48 + v % 10 : Nat) : Int) % 256] = (⟨[UInt8.ofNat (48 + v % 10)].toArray⟩ : ByteArray) := by
  have e : ((48 + v % 10 : Nat) : Int) % 256 = ((48 + v % 10 : Nat) : Int) := Int.emod_eq_of_lt (by omega) (by omega)
  rw [e]
  rfl
theorem fmt_l0 (n : Nat) : ∀ (x : Int) (l : List UInt8) (a0 : Int), x.natAbs < 10 ^ n → n + l.length ≤ 1000 → -9223372036854775808 ≤ x → x ≤ 9223372036854775807 →
    Ev (fun k => spec_FormatInt.l0 k a0 ⟨l.toArray⟩ x) ⟨((if a0 < 0 then [45] else []) ++ (dl x.natAbs ++ l)).toArray⟩ := by
  have stop : ∀ (l : List UInt8) (a0 : Int), l.length ≤ 1000 → Ev (fun k => spec_FormatInt.l0 k a0 ⟨l.toArray⟩ 0) ⟨((if a0 < 0 then [45] else []) ++ l).toArray⟩ := by
    intro l a0 hl
    by_cases c : a0 < 0
    · refine Ev.step (f := fun _ => some (⟨([45] ++ l).toArray⟩ : ByteArray)) (fun k => ?_) (by rw [if_pos c]; exact Ev.now _)
      simp only [spec_FormatInt.l0]
      rw [if_pos trivial, if_pos c, size_list, if_pos (by omega)]
      rw [← app_lists]
    · refine Ev.step (f := fun _ => some (⟨l.toArray⟩ : ByteArray)) (fun k => ?_) (by rw [if_neg c]; exact Ev.now _)
      simp only [spec_FormatInt.l0]
      rw [if_pos trivial, if_neg c]
  induction n with
  | zero =>
    intro x l a0 hx hl _ _
    have h0 : x = 0 := by have : x.natAbs < 1 := hx; omega
    subst h0
    have := stop l a0 (by omega)
    simpa [dl_zero] using this
  | succ n ih =>
    intro x l a0 hx hl hb0 hb1
    by_cases h0 : x = 0
    · subst h0
      have := stop l a0 (by omega)
      simpa [dl_zero] using this
    · have hv : x.natAbs ≠ 0 := by omega
      have hd := digit x x.natAbs rfl
      have hq : (Int.tdiv x 10).natAbs = x.natAbs / 10 := by rw [Int.natAbs_tdiv]; rfl
      have hw : wrap64 (Int.tdiv x 10) = Int.tdiv x 10 := wrap_id (by omega) (by omega)
      have hp : x.natAbs / 10 < 10 ^ n := by rw [Nat.pow_succ] at hx; omega
      have key := ih (Int.tdiv x 10) (UInt8.ofNat (48 + x.natAbs % 10) :: l) a0 (by rw [hq]; exact hp) (by simp only [List.length_cons]; omega) (by omega) (by omega)
      rw [hq] at key
      have e : dl x.natAbs ++ l = dl (x.natAbs / 10) ++ (UInt8.ofNat (48 + x.natAbs % 10) :: l) := by rw [dl_pos hv, List.append_assoc]; rfl
      rw [e]
      refine Ev.step (fun k => ?_) key
      simp only [spec_FormatInt.l0]
      rw [if_neg h0]
      by_cases c : Int.tmod x 10 < 0
      · have e1 : wrap64 (48 + wrap64 (-(Int.tmod x 10))) = ((48 + x.natAbs % 10 : Nat) : Int) := by
          rw [wrap_id (x := -(Int.tmod x 10)) (by omega) (by omega), wrap_id (by omega) (by omega)]
          omega
        rw [if_pos c, e1, Option.bind_some, one_digit, size_list, size_list, if_pos (by simp only [List.length_cons, List.length_nil]; omega), hw, app_lists]
        rfl
      · have e1 : wrap64 (48 + Int.tmod x 10) = ((48 + x.natAbs % 10 : Nat) : Int) := by
          rw [wrap_id (by omega) (by omega)]
          omega
        rw [if_neg c, e1, Option.bind_some, one_digit, size_list, size_list, if_pos (by simp only [List.length_cons, List.length_nil]; omega), hw, app_lists]
        rfl
theorem fmtS_ev (a : Int) (h0 : -9223372036854775808 ≤ a) (h1 : a ≤ 9223372036854775807) : Ev (fun k => spec_FormatInt.f k a) ⟨(Lib.itoa a).toArray⟩ := by
  unfold spec_FormatInt.f
  by_cases c : a = 0
  · subst c
    simp only [if_pos rfl]
    have e : (⟨(Lib.itoa 0).toArray⟩ : ByteArray) = ⟨#[48]⟩ := by
      unfold Lib.itoa
      rw [if_neg (by decide), show (0 : Int).toNat = 0 from rfl, Lib.decDigits_one (by decide)]
      rfl
    rw [e]
    exact Ev.now _
  · simp only [if_neg c]
    have key := fmt_l0 19 a [] a (by have : a.natAbs ≤ 9223372036854775808 := by omega
                                     have e : (10 : Nat) ^ 19 = 10000000000000000000 := by decide
                                     omega) (by simp) h0 h1
    have e : Lib.itoa a = (if a < 0 then [45] else []) ++ (dl a.natAbs ++ []) := by
      unfold Lib.itoa
      rw [List.append_nil, ← dec_dl a.natAbs (by omega)]
      by_cases h : a < 0
      · rw [if_pos h, if_pos h]; rfl
      · rw [if_neg h, if_neg h, show a.toNat = a.natAbs by omega]; rfl
    rw [e]
    exact key
theorem itoa_eq (a : Int) (h0 : -9223372036854775808 ≤ a) (h1 : a ≤ 9223372036854775807) : strconv_Itoa_26.f a = some ⟨(Lib.itoa a).toArray⟩ := by
  unfold strconv_Itoa_26.f
  rw [if_pos ⟨h0, h1⟩]

theorem dec_len (n : Nat) : ∀ v : Nat, v < 10 ^ (n + 1) → (Lib.decDigits v).length ≤ n + 1 := by
  induction n with
  | zero =>
    intro v hv
    rw [Lib.decDigits_one (by simpa using hv)]
    simp
  | succ n ih =>
    intro v hv
    by_cases c : v < 10
    · rw [Lib.decDigits_one c]
      simp
    · have := ih (v / 10) (by rw [Nat.pow_succ] at hv; omega)
      rw [Lib.decDigits, dif_neg c, List.length_append, List.length_cons, List.length_nil]
      omega
theorem itoa_len (a : Int) (h0 : -9223372036854775808 ≤ a) (h1 : a ≤ 9223372036854775807) : (Lib.itoa a).length ≤ 21 := by
  have e : (10 : Nat) ^ (18 + 1) = 10000000000000000000 := by decide
  unfold Lib.itoa
  by_cases c : a < 0
  · have := dec_len 18 a.natAbs (by omega)
    rw [if_pos c, List.length_cons]
    omega
  · have := dec_len 18 a.toNat (by omega)
    rw [if_neg c]
    omega
def frOf (n d : Int) : ByteArray := if isR n d = true then (if d = 1 then ⟨(Lib.itoa n).toArray⟩ else ⟨(Lib.itoa n ++ ([47] ++ Lib.itoa d)).toArray⟩) else ⟨#[]⟩
theorem frS_ev (n d : Int) : Ev (fun k => spec_FormatRatio.f k n d) (frOf n d) := by
  unfold spec_FormatRatio.f frOf
  refine Ev.bind (isRS_ev n d) ?_
  by_cases c : isR n d = true
  · have h := (isR_iff n d).1 c
    have l1 := itoa_len n (by omega) (by omega)
    have l2 := itoa_len d (by omega) (by omega)
    simp only [c, if_true]
    by_cases c1 : d = 1
    · simp only [if_pos c1]
      exact Ev.bind (fmtS_ev n (by omega) (by omega)) (Ev.now _)
    · simp only [if_neg c1]
      refine Ev.bind (fmtS_ev n (by omega) (by omega)) ?_
      simp only [size_list, if_pos (show (Lib.itoa n).length + 1 ≤ 9223372036854775807 by omega)]
      refine Ev.bind (fmtS_ev d (by omega) (by omega)) ?_
      have e : ((⟨(Lib.itoa n).toArray⟩ : ByteArray) ++ (⟨#[47]⟩ : ByteArray)) = ⟨(Lib.itoa n ++ [47]).toArray⟩ := app_lists _ [47]
      simp only [e, size_list, app_lists]
      rw [if_pos (by simp only [List.length_append, List.length_cons, List.length_nil]; omega), List.append_assoc]
      exact Ev.now _
  · simp only [if_neg c]
    exact Ev.now _
theorem frI_ev (n d : Int) : Ev (fun k => impl_FormatRatio.f k n d) (frOf n d) := by
  unfold impl_FormatRatio.f frOf
  refine Ev.bind (isRI_ev n d) ?_
  by_cases c : isR n d = true
  · have h := (isR_iff n d).1 c
    have l1 := itoa_len n (by omega) (by omega)
    have l2 := itoa_len d (by omega) (by omega)
    simp only [c, if_true, itoa_eq n (by omega) (by omega), itoa_eq d (by omega) (by omega), Option.bind_some]
    by_cases c1 : d = 1
    · simp only [if_pos c1]
      exact Ev.now _
    · simp only [if_neg c1]
      have e : ((⟨#[47]⟩ : ByteArray) ++ (⟨(Lib.itoa d).toArray⟩ : ByteArray)) = ⟨([47] ++ Lib.itoa d).toArray⟩ := app_lists [47] _
      simp only [e, size_list, app_lists]
      rw [if_pos (by omega), if_pos (by simp only [List.length_append, List.length_cons, List.length_nil]; omega)]
      exact Ev.now _
  · simp only [if_neg c]
    exact Ev.now _

theorem FnExactFormatRatio : ∀ (a b : Int), (Lit.int .i64 a).wf = true → (Lit.int .i64 b).wf = true → ∃ k, laws_FnExactFormatRatio.f k a b = some true := by
  intro a b _ _
  refine Ev.rounds ?_
  unfold laws_FnExactFormatRatio.f laws_toRatio.f
  simp only [Option.bind_some]
  refine Ev.bind (frS_ev a b) ?_
  refine Ev.bind (frI_ev a b) ?_
  simp only [if_true]
  exact Ev.now true

end Go.Proofs.YticigcjojpdapaaDoor.Pure
