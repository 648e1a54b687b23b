/-
  For all arguments, the program's FormatRows returns what the reference's FormatRows returns.
  Conditions: none beside the given statement's own.
-/
import Derived.Test.YticigcjojpdapaaDoorPFnExactFormatRowsx3
set_option linter.unusedSimpArgs false
set_option linter.unusedVariables false
namespace Go.Proofs.YticigcjojpdapaaDoor.Pure
open Go.RowKit Go.Proofs.YticigcjojpdapaaDoor.PFnExactFormatRows Go.Proofs.YticigcjojpdapaaDoorW.PrintWords Go.Proofs.YticigcjojpdapaaDoorW.PrintLast Go.Proofs.YticigcjojpdapaaDoorW.PrintMore

theorem wrap_id {x : Int} (h1 : -9223372036854775808 ≤ x) (h2 : x < 9223372036854775808) : wrap64 x = x := by unfold wrap64; omega
theorem rd_nat (l : List Int) (i : Nat) (h : i < l.length) : rd l (i : Int) = l[i] := by
  unfold rd; rw [Int.toNat_natCast, List.getD_eq_getElem?_getD, List.getElem?_eq_getElem h]; rfl
theorem wf64 {x : Int} (h : (Lit.int .i64 x).wf = true) : -9223372036854775808 ≤ x ∧ x < 9223372036854775808 := by
  have h1 : IntKind.i64.min = -9223372036854775808 := by decide
  have h2 : IntKind.i64.max = 9223372036854775807 := by decide
  simp only [Lit.wf, h1, h2, Bool.and_eq_true, decide_eq_true_eq] at h
  omega
theorem wf8 {x : Int} (h : (Lit.int .u8 x).wf = true) : 0 ≤ x ∧ x < 256 := by
  have h1 : IntKind.u8.min = 0 := by decide
  have h2 : IntKind.u8.max = 255 := by decide
  simp only [Lit.wf, h1, h2, Bool.and_eq_true, decide_eq_true_eq] at h
  omega
theorem set_take (l x : List Int) (i : Nat) (h : i < l.length) (hx : x.length = l.length) (ht : x.take i = l.take i) : (x.set i l[i]).take (i + 1) = l.take (i + 1) := by
  apply List.ext_getElem?
  intro j
  simp only [List.getElem?_take, List.getElem?_set]
  have hj : (x.take i)[j]? = (l.take i)[j]? := by rw [ht]
  simp only [List.getElem?_take] at hj
  by_cases h1 : j < i + 1
  · rw [if_pos h1, if_pos h1]
    by_cases h2 : i = j
    · subst h2; rw [if_pos rfl, if_pos (by omega), List.getElem?_eq_getElem h]
    · rw [if_neg h2]; rw [if_pos (by omega), if_pos (by omega)] at hj; exact hj
  · rw [if_neg h1, if_neg h1]
theorem drop_eq_cons (l : List Int) (i : Nat) (h : i < l.length) : l.drop i = l[i] :: l.drop (i + 1) := List.drop_eq_getElem_cons h
theorem cons_iff {a b : Int} (e : a = b) (l x : List Int) : (a :: l = b :: x) ↔ l = x := by
  rw [e]
  exact ⟨fun h => (List.cons.inj h).2, fun h => by rw [h]⟩
theorem take_full (l x : List Int) (i : Nat) (hi : l.length ≤ i) (hx : x.length = l.length) (ht : x.take i = l.take i) : x = l := by
  rwa [List.take_of_length_le (by omega), List.take_of_length_le hi] at ht

theorem toIntS_l0 (l : List Int) (hl : l.length ≤ 1048576) (d : Nat) : ∀ (i : Nat) (x : List Int), l.length - i = d → i ≤ l.length → x.length = l.length → x.take i = l.take i → Ev (fun k => laws_toIntS.l0 k l x (i : Int)) l := by
  induction d with
  | zero =>
    intro i x hd hi hx ht
    obtain rfl := take_full l x i (by omega) hx ht
    refine Ev.step (f := fun _ => some x) (fun k => ?_) (Ev.now x)
    simp only [laws_toIntS.l0]
    rw [if_neg (by omega)]
  | succ d ih =>
    intro i x hd hi hx ht
    have h : i < l.length := by omega
    refine Ev.step (f := fun k => laws_toIntS.l0 k l (x.set i l[i]) ((i + 1 : Nat) : Int)) (fun k => ?_) (ih (i + 1) _ (by omega) (by omega) (by simpa using hx) (set_take l x i h hx ht))
    simp only [laws_toIntS.l0]
    rw [if_pos (by omega), if_pos (by omega), if_pos (by omega), rd_nat l i h, wrap_id (by omega) (by omega), Int.toNat_natCast]
    rfl
theorem toIntS_ev (l : List Int) (hl : l.length ≤ 1048576) : Ev (fun k => laws_toIntS.f k l) l := by
  refine Ev.congr (f := fun k => laws_toIntS.l0 k l (List.replicate l.length 0) ((0 : Nat) : Int)) (fun k => ?_) (toIntS_l0 l hl l.length 0 _ (by omega) (by omega) (by simp) (by simp))
  unfold laws_toIntS.f
  rw [if_pos (by omega), Int.toNat_natCast, if_pos (by omega)]
  rfl

theorem eqIntS_l0 (l x : List Int) (hl : l.length ≤ 16777216) (hx : x.length = l.length) (d : Nat) : ∀ (i : Nat), l.length - i = d → i ≤ l.length → Ev (fun k => laws_eqIntS.l0 k l x (i : Int)) (decide (l.drop i = x.drop i)) := by
  induction d with
  | zero =>
    intro i hd hi
    rw [List.drop_eq_nil_of_le (by omega), List.drop_eq_nil_of_le (by omega), decide_eq_true rfl]
    refine Ev.step (f := fun _ => some true) (fun k => ?_) (Ev.now true)
    simp only [laws_eqIntS.l0]
    rw [if_neg (by omega)]
  | succ d ih =>
    intro i hd hi
    have h : i < l.length := by omega
    have h' : i < x.length := by omega
    rw [drop_eq_cons l i h, drop_eq_cons x i h']
    by_cases e : l[i] = x[i]
    · rw [decide_eq_decide.2 (cons_iff e _ _)]
      refine Ev.step (f := fun k => laws_eqIntS.l0 k l x ((i + 1 : Nat) : Int)) (fun k => ?_) (ih (i + 1) (by omega) (by omega))
      simp only [laws_eqIntS.l0]
      rw [if_pos (by omega), if_pos (by omega), if_pos (by omega), rd_nat l i h, rd_nat x i h', if_pos e, wrap_id (by omega) (by omega)]
      rfl
    · rw [decide_eq_false fun h => e (List.cons.inj h).1]
      refine Ev.step (f := fun _ => some false) (fun k => ?_) (Ev.now false)
      simp only [laws_eqIntS.l0]
      rw [if_pos (by omega), if_pos (by omega), if_pos (by omega), rd_nat l i h, rd_nat x i h', if_neg e]
theorem eqIntS_ev (l x : List Int) (hl : l.length ≤ 16777216) : Ev (fun k => laws_eqIntS.f k l x) (decide (l = x)) := by
  by_cases e : l.length = x.length
  · refine Ev.congr (f := fun k => laws_eqIntS.l0 k l x ((0 : Nat) : Int)) (fun k => ?_) (by simpa using eqIntS_l0 l x hl e.symm l.length 0 (by omega) (by omega))
    unfold laws_eqIntS.f
    rw [if_pos (by omega)]
    rfl
  · rw [decide_eq_false (fun h => e (by rw [h]))]
    refine Ev.congr (f := fun _ => some false) (fun k => ?_) (Ev.now false)
    unfold laws_eqIntS.f
    rw [if_neg (by omega)]
theorem eqIntS_self (l : List Int) (hl : l.length ≤ 16777216) : Ev (fun k => laws_eqIntS.f k l l) true := by
  simpa using eqIntS_ev l l hl

theorem rdL_nat (l : List (List Int)) (i : Nat) (h : i < l.length) : rd_L1 l (i : Int) = l[i] := by
  unfold rd_L1
  rw [Int.toNat_natCast, List.getD_eq_getElem?_getD, List.getElem?_eq_getElem h]; rfl
theorem drop_consL (l : List (List Int)) (i : Nat) (h : i < l.length) : l.drop i = l[i] :: l.drop (i + 1) := List.drop_eq_getElem_cons h

def sumLen : List (List Int) → Nat
  | [] => 0
  | r :: l => r.length + sumLen l
theorem len_le_sum (l : List (List Int)) : ∀ r ∈ l, r.length ≤ sumLen l := by
  induction l with
  | nil => intro r h; cases h
  | cons a l ih =>
    intro r h
    simp only [sumLen]
    rcases List.mem_cons.1 h with rfl | h
    · omega
    · have := ih r h; omega
theorem sz_eq (r : List Int) (a : Int) (hr : r.length ≤ maxLen) (h0 : 0 ≤ a) (h1 : a ≤ 1048576) : laws_szIntS.f r a = some (if a - r.length < 0 then -1 else a - r.length) := by
  unfold laws_szIntS.f
  unfold maxLen at hr
  rw [wrap_id (by omega) (by omega)]
  split <;> rfl
theorem szSS_l0 (l : List (List Int)) (hm : ∀ r ∈ l, r.length ≤ maxLen) (hl : l.length ≤ 1048576) (d : Nat) : ∀ (i : Nat) (a : Int), l.length - i = d → 0 ≤ a → a ≤ 1048576 → ∃ r, Ev (fun k => laws_szIntSS.l0 k l a (i : Int)) r ∧ (0 ≤ r → r + sumLen (l.drop i) = a) := by
  induction d with
  | zero =>
    intro i a hd h0 h1
    refine ⟨a, Ev.step (f := fun _ => some a) (fun k => ?_) (Ev.now a), fun _ => by rw [List.drop_eq_nil_of_le (by omega)]; simp [sumLen]⟩
    simp only [laws_szIntSS.l0]
    rw [if_neg (by omega)]
  | succ d ih =>
    intro i a hd h0 h1
    have h : i < l.length := by omega
    have hs := sz_eq l[i] a (hm _ (List.getElem_mem h)) h0 h1
    by_cases c : a - l[i].length < 0
    · rw [if_pos c] at hs
      refine ⟨-1, Ev.step (f := fun _ => some (-1)) (fun k => ?_) (Ev.now (-1)), fun h => by omega⟩
      simp only [laws_szIntSS.l0]
      rw [if_pos (by omega), if_pos (by omega), rdL_nat l i h, hs]
      rfl
    · rw [if_neg c] at hs
      obtain ⟨r, hr, hr'⟩ := ih (i + 1) (a - l[i].length) (by omega) (by omega) (by omega)
      refine ⟨r, Ev.step (f := fun k => laws_szIntSS.l0 k l (a - l[i].length) ((i + 1 : Nat) : Int)) (fun k => ?_) hr, fun h0 => ?_⟩
      · simp only [laws_szIntSS.l0]
        rw [if_pos (by omega), if_pos (by omega), rdL_nat l i h, hs]
        simp only [Option.bind_some]
        rw [if_neg (by omega), wrap_id (by omega) (by omega)]
        rfl
      · have := hr' h0
        rw [drop_consL l i h]
        simp only [sumLen]
        omega
theorem szSS_ev (l : List (List Int)) (hlm : l.length ≤ maxLen) (hm : ∀ r ∈ l, r.length ≤ maxLen) : ∃ r, Ev (fun k => laws_szIntSS.f k l 1048576) r ∧ (0 ≤ r → r + (l.length : Int) + (sumLen l : Int) = 1048576) := by
  unfold laws_szIntSS.f
  have hw : wrap64 (1048576 - (l.length : Int)) = 1048576 - (l.length : Int) := by
    unfold maxLen at hlm
    exact wrap_id (by omega) (by omega)
  by_cases c : 1048576 - (l.length : Int) < 0
  · refine ⟨-1, ?_, fun h => by omega⟩
    simp only [hw, if_pos c]
    exact Ev.now _
  · obtain ⟨r, hr, hr'⟩ := szSS_l0 l hm (by omega) l.length 0 (1048576 - (l.length : Int)) (by omega) (by omega) (by omega)
    refine ⟨r, ?_, fun h => by have := hr' h; simp at this; omega⟩
    simp only [hw, if_neg c]
    exact hr

theorem set_takeL (l x : List (List Int)) (i : Nat) (h : i < l.length) (hx : x.length = l.length) (ht : x.take i = l.take i) : (x.set i l[i]).take (i + 1) = l.take (i + 1) := by
  apply List.ext_getElem?
  intro j
  simp only [List.getElem?_take, List.getElem?_set]
  have hj : (x.take i)[j]? = (l.take i)[j]? := by rw [ht]
  simp only [List.getElem?_take] at hj
  by_cases h1 : j < i + 1
  · rw [if_pos h1, if_pos h1]
    by_cases h2 : i = j
    · subst h2; rw [if_pos rfl, if_pos (by omega), List.getElem?_eq_getElem h]
    · rw [if_neg h2]; rw [if_pos (by omega), if_pos (by omega)] at hj; exact hj
  · rw [if_neg h1, if_neg h1]
theorem toIntSS_l0 (l : List (List Int)) (hl : l.length ≤ 1048576) (hm : ∀ r ∈ l, r.length ≤ 1048576) (d : Nat) : ∀ (i : Nat) (x : List (List Int)), l.length - i = d → i ≤ l.length → x.length = l.length → x.take i = l.take i → Ev (fun k => laws_toIntSS.l0 k l x (i : Int)) l := by
  induction d with
  | zero =>
    intro i x hd hi hx ht
    have e : x = l := by rwa [List.take_of_length_le (by omega), List.take_of_length_le (by omega)] at ht
    subst e
    refine Ev.step (f := fun _ => some x) (fun k => ?_) (Ev.now x)
    simp only [laws_toIntSS.l0]
    rw [if_neg (by omega)]
  | succ d ih =>
    intro i x hd hi hx ht
    have h : i < l.length := by omega
    refine Ev.step (f := fun k => (laws_toIntS.f k l[i]).bind fun t => if (i : Int) < (x.length : Int) then laws_toIntSS.l0 k l (x.set i t) ((i + 1 : Nat) : Int) else none) (fun k => ?_) (Ev.bind (toIntS_ev l[i] (hm _ (List.getElem_mem h))) ?_)
    · simp only [laws_toIntSS.l0]
      rw [if_pos (by omega), if_pos (by omega), rdL_nat l i h, wrap_id (by omega) (by omega), Int.toNat_natCast]
      rfl
    · simp only [if_pos (show (i : Int) < (x.length : Int) by omega)]
      exact ih (i + 1) _ (by omega) (by omega) (by simpa using hx) (set_takeL l x i h hx ht)
theorem toIntSS_ev (l : List (List Int)) (hl : l.length ≤ 1048576) (hm : ∀ r ∈ l, r.length ≤ 1048576) : Ev (fun k => laws_toIntSS.f k l) l := by
  refine Ev.congr (f := fun k => laws_toIntSS.l0 k l (List.replicate l.length []) ((0 : Nat) : Int)) (fun k => ?_) (toIntSS_l0 l hl hm l.length 0 _ (by omega) (by omega) (by simp) (by simp))
  unfold laws_toIntSS.f
  rw [if_pos (by omega), Int.toNat_natCast, if_pos (by omega)]
  rfl

theorem eqIntSS_l0 (l : List (List Int)) (hl : l.length ≤ 16777216) (hm : ∀ r ∈ l, r.length ≤ 16777216) (d : Nat) : ∀ (i : Nat), l.length - i = d → Ev (fun k => laws_eqIntSS.l0 k l l (i : Int)) true := by
  induction d with
  | zero =>
    intro i hd
    refine Ev.step (f := fun _ => some true) (fun k => ?_) (Ev.now true)
    simp only [laws_eqIntSS.l0]
    rw [if_neg (by omega)]
  | succ d ih =>
    intro i hd
    have h : i < l.length := by omega
    refine Ev.step (f := fun k => (laws_eqIntS.f k l[i] l[i]).bind fun t => if t = true then laws_eqIntSS.l0 k l l ((i + 1 : Nat) : Int) else some false) (fun k => ?_) (Ev.bind (eqIntS_self l[i] (hm _ (List.getElem_mem h))) ?_)
    · simp only [laws_eqIntSS.l0]
      rw [if_pos (by omega), if_pos (by omega), if_pos (by omega), rdL_nat l i h, wrap_id (by omega) (by omega)]
      rfl
    · simp only [if_true]
      exact ih (i + 1) (by omega)
theorem eqIntSS_self (l : List (List Int)) (hl : l.length ≤ 16777216) (hm : ∀ r ∈ l, r.length ≤ 16777216) : Ev (fun k => laws_eqIntSS.f k l l) true := by
  refine Ev.congr (f := fun k => laws_eqIntSS.l0 k l l ((0 : Nat) : Int)) (fun k => ?_) (eqIntSS_l0 l hl hm l.length 0 (by omega))
  unfold laws_eqIntSS.f
  rw [if_pos rfl]
  rfl

theorem of_wf64 {x : Int} (h : (Lit.int .i64 x).wf = true) : -9223372036854775808 ≤ x ∧ x ≤ 9223372036854775807 := by
  have h1 : IntKind.i64.min = -9223372036854775808 := by decide
  have h2 : IntKind.i64.max = 9223372036854775807 := by decide
  simp only [Lit.wf, h1, h2, Bool.and_eq_true, decide_eq_true_eq] at h
  exact h

def dl (v : Nat) : List UInt8 := if h : v = 0 then [] else dl (v / 10) ++ [UInt8.ofNat (48 + v % 10)]
termination_by v
decreasing_by omega
theorem dl_zero : dl 0 = [] := by rw [dl, dif_pos rfl]
theorem dl_pos {v : Nat} (h : v ≠ 0) : dl v = dl (v / 10) ++ [UInt8.ofNat (48 + v % 10)] := by rw [dl, dif_neg h]
theorem dec_dl : ∀ v : Nat, v ≠ 0 → Lib.decDigits v = dl v := by
  intro v
  induction v using Nat.strongRecOn with
  | ind v ih =>
    intro h
    by_cases c : v < 10
    · rw [dl_pos h, Nat.div_eq_of_lt c, dl_zero, Lib.decDigits_one c, Nat.mod_eq_of_lt c]
      rfl
    · rw [dl_pos h, Lib.decDigits, dif_neg c, ih (v / 10) (by omega) (by omega)]
theorem app_lists (a b : List UInt8) : (⟨a.toArray⟩ : ByteArray) ++ (⟨b.toArray⟩ : ByteArray) = ⟨(a ++ b).toArray⟩ := by
  apply ByteArray.ext
  rw [ByteArray.data_append]
  simp
theorem size_list (a : List UInt8) : (⟨a.toArray⟩ : ByteArray).size = a.length := by simp [ByteArray.size]
theorem digit (x : Int) (v : Nat) (hv : x.natAbs = v) : (Int.tmod x 10).natAbs = v % 10 := by
  rw [Int.natAbs_tmod, hv]; rfl
theorem one_digit (v : Nat) : strOfNums [((48 + v % 10 : Nat) : Int) % 256] = (⟨[UInt8.ofNat (48 + v % 10)].toArray⟩ : ByteArray) := by
  have e : ((48 + v % 10 : Nat) : Int) % 256 = ((48 + v % 10 : Nat) : Int) := Int.emod_eq_of_lt (by omega) (by omega)
  rw [e]
  rfl
theorem fmt_l0 (n : Nat) : ∀ (x : Int) (l : List UInt8) (a0 : Int), x.natAbs < 10 ^ n → n + l.length ≤ 1000 → -9223372036854775808 ≤ x → x ≤ 9223372036854775807 →
    Ev (fun k => spec_FormatInt.l0 k a0 ⟨l.toArray⟩ x) ⟨((if a0 < 0 then [45] else []) ++ (dl x.natAbs ++ l)).toArray⟩ := by
  have stop : ∀ (l : List UInt8) (a0 : Int), l.length ≤ 1000 → Ev (fun k => spec_FormatInt.l0 k a0 ⟨l.toArray⟩ 0) ⟨((if a0 < 0 then [45] else []) ++ l).toArray⟩ := by
    intro l a0 hl
    by_cases c : a0 < 0
    · refine Ev.step (f := fun _ => some (⟨([45] ++ l).toArray⟩ : ByteArray)) (fun k => ?_) (by rw [if_pos c]; exact Ev.now _)
      simp only [spec_FormatInt.l0]
      rw [if_pos trivial, if_pos c, size_list, if_pos (by omega)]
      rw [← app_lists]
    · refine Ev.step (f := fun _ => some (⟨l.toArray⟩ : ByteArray)) (fun k => ?_) (by rw [if_neg c]; exact Ev.now _)
      simp only [spec_FormatInt.l0]
      rw [if_pos trivial, if_neg c]
  induction n with
  | zero =>
    intro x l a0 hx hl _ _
    have h0 : x = 0 := by have : x.natAbs < 1 := hx; omega
    subst h0
    have := stop l a0 (by omega)
    simpa [dl_zero] using this
  | succ n ih =>
    intro x l a0 hx hl hb0 hb1
    by_cases h0 : x = 0
    · subst h0
      have := stop l a0 (by omega)
      simpa [dl_zero] using this
    · have hv : x.natAbs ≠ 0 := by omega
      have hd := digit x x.natAbs rfl
      have hq : (Int.tdiv x 10).natAbs = x.natAbs / 10 := by rw [Int.natAbs_tdiv]; rfl
      have hw : wrap64 (Int.tdiv x 10) = Int.tdiv x 10 := wrap_id (by omega) (by omega)
      have hp : x.natAbs / 10 < 10 ^ n := by rw [Nat.pow_succ] at hx; omega
      have key := ih (Int.tdiv x 10) (UInt8.ofNat (48 + x.natAbs % 10) :: l) a0 (by rw [hq]; exact hp) (by simp only [List.length_cons]; omega) (by omega) (by omega)
      rw [hq] at key
      have e : dl x.natAbs ++ l = dl (x.natAbs / 10) ++ (UInt8.ofNat (48 + x.natAbs % 10) :: l) := by rw [dl_pos hv, List.append_assoc]; rfl
      rw [e]
      refine Ev.step (fun k => ?_) key
      simp only [spec_FormatInt.l0]
      rw [if_neg h0]
      by_cases c : Int.tmod x 10 < 0
      · have e1 : wrap64 (48 + wrap64 (-(Int.tmod x 10))) = ((48 + x.natAbs % 10 : Nat) : Int) := by
          rw [wrap_id (x := -(Int.tmod x 10)) (by omega) (by omega), wrap_id (by omega) (by omega)]
          omega
        rw [if_pos c, e1, Option.bind_some, one_digit, size_list, size_list, if_pos (by simp only [List.length_cons, List.length_nil]; omega), hw, app_lists]
        rfl
      · have e1 : wrap64 (48 + Int.tmod x 10) = ((48 + x.natAbs % 10 : Nat) : Int) := by
          rw [wrap_id (by omega) (by omega)]
          omega
        rw [if_neg c, e1, Option.bind_some, one_digit, size_list, size_list, if_pos (by simp only [List.length_cons, List.length_nil]; omega), hw, app_lists]
        rfl
theorem fmtS_ev (a : Int) (h0 : -9223372036854775808 ≤ a) (h1 : a ≤ 9223372036854775807) : Ev (fun k => spec_FormatInt.f k a) ⟨(Lib.itoa a).toArray⟩ := by
  unfold spec_FormatInt.f
  by_cases c : a = 0
  · subst c
    simp only [if_pos rfl]
    have e : (⟨(Lib.itoa 0).toArray⟩ : ByteArray) = ⟨#[48]⟩ := by
      unfold Lib.itoa
      rw [if_neg (by decide), show (0 : Int).toNat = 0 from rfl, Lib.decDigits_one (by decide)]
      rfl
    rw [e]
    exact Ev.now _
  · simp only [if_neg c]
    have key := fmt_l0 19 a [] a (by have : a.natAbs ≤ 9223372036854775808 := by omega
                                     have e : (10 : Nat) ^ 19 = 10000000000000000000 := by decide
                                     omega) (by simp) h0 h1
    have e : Lib.itoa a = (if a < 0 then [45] else []) ++ (dl a.natAbs ++ []) := by
      unfold Lib.itoa
      rw [List.append_nil, ← dec_dl a.natAbs (by omega)]
      by_cases h : a < 0
      · rw [if_pos h, if_pos h]; rfl
      · rw [if_neg h, if_neg h, show a.toNat = a.natAbs by omega]; rfl
    rw [e]
    exact key
theorem itoa_eq (a : Int) (h0 : -9223372036854775808 ≤ a) (h1 : a ≤ 9223372036854775807) : strconv_Itoa_26.f a = some ⟨(Lib.itoa a).toArray⟩ := by
  unfold strconv_Itoa_26.f
  rw [if_pos ⟨h0, h1⟩]
theorem dec_len (n : Nat) : ∀ v : Nat, v < 10 ^ (n + 1) → (Lib.decDigits v).length ≤ n + 1 := by
  induction n with
  | zero =>
    intro v hv
    rw [Lib.decDigits_one (by simpa using hv)]
    simp
  | succ n ih =>
    intro v hv
    by_cases c : v < 10
    · rw [Lib.decDigits_one c]
      simp
    · have := ih (v / 10) (by rw [Nat.pow_succ] at hv; omega)
      rw [Lib.decDigits, dif_neg c, List.length_append, List.length_cons, List.length_nil]
      omega
theorem itoa_len (a : Int) (h0 : -9223372036854775808 ≤ a) (h1 : a ≤ 9223372036854775807) : (Lib.itoa a).length ≤ 21 := by
  have e : (10 : Nat) ^ (18 + 1) = 10000000000000000000 := by decide
  unfold Lib.itoa
  by_cases c : a < 0
  · have := dec_len 18 a.natAbs (by omega)
    rw [if_pos c, List.length_cons]
    omega
  · have := dec_len 18 a.toNat (by omega)
    rw [if_neg c]
    omega
def BA (l : List UInt8) : ByteArray := ⟨l.toArray⟩
def InR (l : List Int) : Prop := ∀ x ∈ l, -9223372036854775808 ≤ x ∧ x ≤ 9223372036854775807
def rowT (l : List Int) : List UInt8 := Lib.join (l.map Lib.itoa) [32]
def matT (m : List (List Int)) : List UInt8 := Lib.join (m.map rowT) [59, 32]
theorem BA_size (l : List UInt8) : (BA l).size = l.length := size_list l
theorem BA_app (a b : List UInt8) : BA a ++ BA b = BA (a ++ b) := app_lists a b
theorem lens_le (b : Nat) : ∀ l : List (List UInt8), (∀ x ∈ l, x.length ≤ b) → Lib.lens l ≤ b * l.length
  | [], _ => by simp [Lib.lens]
  | x :: l, h => by
    have h1 := lens_le b l (fun y hy => h y (List.mem_cons_of_mem _ hy))
    have h2 := h x List.mem_cons_self
    simp only [Lib.lens, List.map_cons, List.sum_cons, List.length_cons] at h1 ⊢
    rw [Nat.mul_succ]
    omega
theorem join_le (s : List UInt8) : ∀ l : List (List UInt8), (Lib.join l s).length ≤ s.length * l.length + Lib.lens l
  | [] => by simp [Lib.join_nil]
  | x :: l => by
    rw [Lib.join_length, List.length_cons, Nat.mul_succ]
    omega
theorem rowT_len (l : List Int) (h : InR l) : (rowT l).length ≤ 22 * l.length := by
  have h1 := join_le [32] (l.map Lib.itoa)
  have h2 := lens_le 21 (l.map Lib.itoa) (fun x hx => by
    obtain ⟨a, ha, rfl⟩ := List.mem_map.1 hx
    exact itoa_len a (h a ha).1 (h a ha).2)
  rw [List.length_map] at h1 h2
  simp only [List.length_cons, List.length_nil] at h1
  unfold rowT
  omega
theorem lens_rows : ∀ m : List (List Int), (∀ r ∈ m, InR r) → Lib.lens (m.map rowT) ≤ 22 * sumLen m
  | [], _ => by simp [Lib.lens]
  | r :: m, h => by
    have h1 := lens_rows m (fun y hy => h y (List.mem_cons_of_mem _ hy))
    have h2 := rowT_len r (h r List.mem_cons_self)
    simp only [Lib.lens, List.map_cons, List.sum_cons, sumLen] at h1 ⊢
    omega
theorem matT_len (m : List (List Int)) (h : ∀ r ∈ m, InR r) : (matT m).length ≤ 2 * m.length + 22 * sumLen m := by
  have h1 := join_le [59, 32] (m.map rowT)
  have h2 := lens_rows m h
  rw [List.length_map] at h1
  simp only [List.length_cons, List.length_nil] at h1
  unfold matT
  omega
theorem joinF_eq (ls : List (List UInt8)) (s : List UInt8) (h1 : ls.length ≤ 140737488355328) (h2 : (Lib.join ls s).length ≤ 140737488355328) : strings_Join.f (ls.map BA) (BA s) = some (BA (Lib.join ls s)) := by
  unfold strings_Join.f
  have e : (ls.map BA).map (·.data.toList) = ls := by
    rw [List.map_map]
    have : ((fun x : ByteArray => x.data.toList) ∘ BA) = id := by
      funext x
      rfl
    rw [this, List.map_id]
  have e2 : (BA s).data.toList = s := rfl
  rw [e, e2, List.length_map, if_pos ⟨h1, h2⟩]
  rfl
theorem joinI_l0 (l : List Int) (hl : l.length ≤ 1048576) (hr : InR l) (d : Nat) : ∀ i, i + d = l.length → Ev (fun k => impl_joinInts.l0 k (((l.take i).map Lib.itoa).map BA) l (l.length : Int) (i : Int)) (BA (rowT l)) := by
  induction d with
  | zero =>
    intro i hd
    refine Ev.step (f := fun _ => some (BA (rowT l))) (fun k => ?_) (Ev.now _)
    simp only [impl_joinInts.l0]
    have hlen := rowT_len l hr
    rw [if_neg (by omega), List.take_of_length_le (by omega), show (⟨#[32]⟩ : ByteArray) = BA [32] from rfl, joinF_eq _ _ (by rw [List.length_map]; omega) (by unfold rowT at hlen; omega)]
    rfl
  | succ d ih =>
    intro i hd
    have h : i < l.length := by omega
    have hx := hr l[i] (List.getElem_mem h)
    refine Ev.step (fun k => ?_) (ih (i + 1) (by omega))
    simp only [impl_joinInts.l0]
    rw [if_pos (by omega), if_pos (by omega), if_pos (by omega), rd_nat l i h, itoa_eq _ hx.1 hx.2]
    simp only [Option.bind_some]
    rw [if_pos (by simp only [List.length_map, List.length_take]; omega), wrap_id (by omega) (by omega), List.take_succ_eq_append_getElem h]
    simp only [List.map_append, List.map_cons, List.map_nil]
    rfl
theorem joinI_ev (l : List Int) (hl : l.length ≤ 1048576) (hr : InR l) : Ev (fun k => impl_joinInts.f k l) (BA (rowT l)) := joinI_l0 l hl hr l.length 0 (by omega)
theorem frmI_l0 (m : List (List Int)) (hl : m.length + sumLen m ≤ 1048576) (hr : ∀ r ∈ m, InR r) (d : Nat) : ∀ i, i + d = m.length → Ev (fun k => impl_FormatRows.l0 k (((m.take i).map rowT).map BA) m (m.length : Int) (i : Int)) (BA (matT m)) := by
  induction d with
  | zero =>
    intro i hd
    refine Ev.step (f := fun _ => some (BA (matT m))) (fun k => ?_) (Ev.now _)
    simp only [impl_FormatRows.l0]
    have hlen := matT_len m hr
    rw [if_neg (by omega), List.take_of_length_le (by omega), show (⟨#[59, 32]⟩ : ByteArray) = BA [59, 32] from rfl, joinF_eq _ _ (by rw [List.length_map]; omega) (by unfold matT at hlen; omega)]
    rfl
  | succ d ih =>
    intro i hd
    have h : i < m.length := by omega
    have hx := hr m[i] (List.getElem_mem h)
    have hs := len_le_sum m m[i] (List.getElem_mem h)
    have key := Ev.bind (joinI_ev m[i] (by omega) hx) (f := fun k t => if (((m.take i).map rowT).map BA).length < 8796093022208 then impl_FormatRows.l0 k ((((m.take i).map rowT).map BA) ++ [t]) m (m.length : Int) (wrap64 ((i : Int) + 1)) else none) (r := BA (matT m)) (by
      simp only [if_pos (show (((m.take i).map rowT).map BA).length < 8796093022208 by simp only [List.length_map, List.length_take]; omega)]
      rw [wrap_id (by omega) (by omega)]
      have h2 := ih (i + 1) (by omega)
      rw [List.take_succ_eq_append_getElem h] at h2
      simp only [List.map_append, List.map_cons, List.map_nil] at h2
      exact h2)
    refine Ev.step (fun k => ?_) key
    simp only [impl_FormatRows.l0]
    rw [if_pos (by omega), if_pos (by omega), if_pos (by omega), rdL_nat m i h]
def frm (m : List (List Int)) : ByteArray := if m = [] then ⟨#[45]⟩ else BA (matT m)
theorem frmI_ev (m : List (List Int)) (hl : m.length + sumLen m ≤ 1048576) (hr : ∀ r ∈ m, InR r) : Ev (fun k => impl_FormatRows.f k m) (frm m) := by
  unfold impl_FormatRows.f frm
  cases m with
  | nil =>
    simp only [List.length_nil]
    exact Ev.now _
  | cons r m =>
    rw [if_neg (by simp)]
    have e : ¬ ((((r :: m).length : Nat) : Int) = 0) := by simp only [List.length_cons]; omega
    simp only [if_neg e]
    exact frmI_l0 (r :: m) hl hr (r :: m).length 0 (by omega)
theorem jt_cons (s x : List UInt8) (l : List (List UInt8)) : Lib.joinTail s (x :: l) = s ++ x ++ Lib.joinTail s l := by simp [Lib.joinTail]
theorem specR_l1 (m : List (List Int)) (i : Nat) (hi : i < m.length) (hl : m.length + sumLen m ≤ 1048576) (hr : InR m[i]) (R : ByteArray) (d : Nat) : ∀ (j : Nat) (S : List UInt8), j + d = m[i].length → 1 ≤ j → S.length + 22 * d ≤ 1000000000 →
    Ev (fun k => spec_FormatRows.l0 k m (BA (S ++ Lib.joinTail [32] ((m[i].drop j).map Lib.itoa))) ((i + 1 : Nat) : Int)) R → Ev (fun k => spec_FormatRows.l1 k m (BA S) (i : Int) (j : Int)) R := by
  have hs := len_le_sum m m[i] (List.getElem_mem hi)
  induction d with
  | zero =>
    intro j S hd hj hS h
    rw [List.drop_eq_nil_of_le (by omega)] at h
    simp only [List.map_nil, Lib.joinTail, List.flatten_nil, List.append_nil] at h
    refine Ev.step (fun k => ?_) h
    simp only [spec_FormatRows.l1]
    rw [if_pos (by omega), if_pos (by omega), rdL_nat m i hi, if_neg (by omega), wrap_id (by omega) (by omega)]
    rfl
  | succ d ih =>
    intro j S hd hj hS h
    have hjl : j < m[i].length := by omega
    have hx := hr m[i][j] (List.getElem_mem hjl)
    have hlen := itoa_len m[i][j] hx.1 hx.2
    rw [List.drop_eq_getElem_cons hjl, List.map_cons, jt_cons, ← List.append_assoc, ← List.append_assoc] at h
    have h2 := ih (j + 1) (S ++ [32] ++ Lib.itoa m[i][j]) (by omega) (by omega) (by simp only [List.length_append, List.length_cons, List.length_nil]; omega) h
    have key := Ev.bind (fmtS_ev m[i][j] hx.1 hx.2) (f := fun k t => if (BA S ++ (⟨#[32]⟩ : ByteArray)).size + t.size ≤ 9223372036854775807 then spec_FormatRows.l1 k m ((BA S ++ (⟨#[32]⟩ : ByteArray)) ++ t) (i : Int) (wrap64 ((j : Int) + 1)) else none) (r := R) (by
      rw [show (⟨#[32]⟩ : ByteArray) = BA [32] from rfl, show (⟨(Lib.itoa m[i][j]).toArray⟩ : ByteArray) = BA (Lib.itoa m[i][j]) from rfl, BA_app, BA_size, BA_size, BA_app, wrap_id (by omega) (by omega)]
      simp only [if_pos (show (S ++ [32]).length + (Lib.itoa m[i][j]).length ≤ 9223372036854775807 by simp only [List.length_append, List.length_cons, List.length_nil]; omega)]
      exact h2)
    refine Ev.step (fun k => ?_) key
    simp only [spec_FormatRows.l1]
    rw [if_pos (by omega), if_pos (by omega), rdL_nat m i hi, if_pos (by omega), if_pos (by omega), BA_size, if_pos (by omega), if_pos (by omega), rd_nat _ j hjl]
theorem specR_row (m : List (List Int)) (i : Nat) (hi : i < m.length) (hl : m.length + sumLen m ≤ 1048576) (hr : InR m[i]) (R : ByteArray) (S : List UInt8) (hS : S.length + 22 * m[i].length ≤ 1000000000)
    (h : Ev (fun k => spec_FormatRows.l0 k m (BA (S ++ rowT m[i])) ((i + 1 : Nat) : Int)) R) : Ev (fun k => spec_FormatRows.l1 k m (BA S) (i : Int) 0) R := by
  have hs := len_le_sum m m[i] (List.getElem_mem hi)
  by_cases c : m[i].length = 0
  · have e : m[i] = [] := List.eq_nil_of_length_eq_zero c
    rw [show rowT m[i] = [] by rw [e]; rfl, List.append_nil] at h
    refine Ev.step (fun k => ?_) h
    simp only [spec_FormatRows.l1]
    rw [if_pos (by omega), if_pos (by omega), rdL_nat m i hi, if_neg (by omega), wrap_id (by omega) (by omega)]
    rfl
  · have hjl : 0 < m[i].length := by omega
    have hx := hr m[i][0] (List.getElem_mem hjl)
    have hlen := itoa_len m[i][0] hx.1 hx.2
    have e : rowT m[i] = Lib.itoa m[i][0] ++ Lib.joinTail [32] ((m[i].drop 1).map Lib.itoa) := by
      have e0 : m[i] = m[i][0] :: m[i].drop 1 := by
        have := List.drop_eq_getElem_cons hjl
        rwa [List.drop_zero] at this
      unfold rowT
      conv => lhs; rw [e0]
      rw [List.map_cons, Lib.join_cons]
    rw [e, ← List.append_assoc] at h
    have h2 := specR_l1 m i hi hl hr R (m[i].length - 1) 1 (S ++ Lib.itoa m[i][0]) (by omega) (by omega) (by simp only [List.length_append]; omega) h
    have key := Ev.bind (fmtS_ev m[i][0] hx.1 hx.2) (f := fun k t => if (BA S).size + t.size ≤ 9223372036854775807 then spec_FormatRows.l1 k m (BA S ++ t) (i : Int) (wrap64 (0 + 1)) else none) (r := R) (by
      rw [show (⟨(Lib.itoa m[i][0]).toArray⟩ : ByteArray) = BA (Lib.itoa m[i][0]) from rfl, BA_app, BA_size, BA_size]
      simp only [if_pos (show S.length + (Lib.itoa m[i][0]).length ≤ 9223372036854775807 by omega)]
      rw [show wrap64 (0 + 1) = ((1 : Nat) : Int) by rw [wrap_id (by omega) (by omega)]; rfl]
      exact h2)
    refine Ev.step (fun k => ?_) key
    simp only [spec_FormatRows.l1]
    rw [if_pos (by omega), if_pos (by omega), rdL_nat m i hi, if_pos (by omega), if_neg (by omega), if_pos (by omega), show (0 : Int) = ((0 : Nat) : Int) from rfl, rd_nat _ 0 hjl]
theorem specM_l0 (m : List (List Int)) (hl : m.length + sumLen m ≤ 1048576) (hr : ∀ r ∈ m, InR r) (d : Nat) : ∀ (i : Nat) (S : List UInt8), i + d = m.length → 1 ≤ i → S.length + 2 * d + 22 * sumLen (m.drop i) ≤ 1000000000 →
    Ev (fun k => spec_FormatRows.l0 k m (BA S) (i : Int)) (BA (S ++ Lib.joinTail [59, 32] ((m.drop i).map rowT))) := by
  induction d with
  | zero =>
    intro i S hd hi hS
    rw [List.drop_eq_nil_of_le (by omega)]
    simp only [List.map_nil, Lib.joinTail, List.flatten_nil, List.append_nil]
    refine Ev.step (f := fun _ => some (BA S)) (fun k => ?_) (Ev.now _)
    simp only [spec_FormatRows.l0]
    rw [if_neg (by omega), if_neg (by omega)]
  | succ d ih =>
    intro i S hd hi hS
    have h : i < m.length := by omega
    have hx := hr m[i] (List.getElem_mem h)
    have hlen := rowT_len m[i] hx
    rw [drop_consL m i h] at hS ⊢
    simp only [sumLen] at hS
    rw [List.map_cons, jt_cons, ← List.append_assoc, ← List.append_assoc]
    have h2 := ih (i + 1) (S ++ [59, 32] ++ rowT m[i]) (by omega) (by omega) (by simp only [List.length_append, List.length_cons, List.length_nil]; omega)
    have h3 := specR_row m i h hl hx _ (S ++ [59, 32]) (by simp only [List.length_append, List.length_cons, List.length_nil]; omega) h2
    have h4 : Ev (fun k => spec_FormatRows.j1 k m (BA (S ++ [59, 32])) (i : Int)) (BA (S ++ [59, 32] ++ rowT m[i] ++ Lib.joinTail [59, 32] ((m.drop (i + 1)).map rowT))) := by
      refine Ev.step (fun k => ?_) h3
      simp only [spec_FormatRows.j1]
    refine Ev.step (fun k => ?_) h4
    simp only [spec_FormatRows.l0]
    rw [if_pos (by omega), if_pos (by omega), BA_size, if_pos (by omega), show (⟨#[59, 32]⟩ : ByteArray) = BA [59, 32] from rfl, BA_app]
theorem frmS_ev (m : List (List Int)) (hl : m.length + sumLen m ≤ 1048576) (hr : ∀ r ∈ m, InR r) : Ev (fun k => spec_FormatRows.f k m) (frm m) := by
  unfold spec_FormatRows.f frm
  cases m with
  | nil =>
    refine Ev.step (f := fun _ => some (⟨#[45]⟩ : ByteArray)) (fun k => ?_) (by rw [if_pos rfl]; exact Ev.now _)
    simp only [spec_FormatRows.l0]
    rfl
  | cons r m =>
    rw [if_neg (by simp)]
    have h0 : 0 < (r :: m).length := by simp
    have hx := hr r List.mem_cons_self
    have hlen := rowT_len r hx
    have hl2 := hl
    simp only [List.length_cons, sumLen] at hl2
    have h2 := specM_l0 (r :: m) hl hr m.length 1 (rowT r) (by simp only [List.length_cons]; omega) (by omega) (by simp only [List.drop_succ_cons, List.drop_zero]; omega)
    have h3 := specR_row (r :: m) 0 h0 hl hx _ [] (by simp only [List.length_nil, List.getElem_cons_zero]; omega) (by rw [List.nil_append]; exact h2)
    have h4 : Ev (fun k => spec_FormatRows.j1 k (r :: m) (BA []) 0) (BA (matT (r :: m))) := by
      have e : matT (r :: m) = rowT r ++ Lib.joinTail [59, 32] (((r :: m).drop 1).map rowT) := by
        unfold matT
        rw [List.map_cons, Lib.join_cons]
        rfl
      rw [e]
      refine Ev.step (fun k => ?_) h3
      simp only [spec_FormatRows.j1]
      rfl
    refine Ev.step (fun k => ?_) h4
    simp only [spec_FormatRows.l0]
    rw [if_pos (by omega), if_neg (by omega)]
    rfl

theorem FnExactFormatRows : ∀ (m : List (List Int)), m.length ≤ maxLen → (∀ r ∈ m, r.length ≤ maxLen ∧ ∀ x ∈ r, (Lit.int .i64 x).wf = true) → ∃ k, laws_FnExactFormatRows.f k m = some true := by
  intro m hlm hw
  have hm : ∀ r ∈ m, r.length ≤ maxLen := fun r hr => (hw r hr).1
  have hin : ∀ r ∈ m, InR r := fun r hr x hx => of_wf64 ((hw r hr).2 x hx)
  refine Ev.rounds ?_
  unfold laws_FnExactFormatRows.f
  obtain ⟨s, hs, hs'⟩ := szSS_ev m hlm hm
  refine Ev.bind hs ?_
  by_cases cs : s < 0
  · simp only [if_pos cs]; exact Ev.now true
  simp only [if_neg cs]
  have hsum := hs' (by omega)
  have b1 : m.length ≤ 1048576 := by omega
  have b2 : ∀ r ∈ m, r.length ≤ 1048576 := fun r hr => by have := len_le_sum m r hr; omega
  have b3 : ∀ r ∈ m, r.length ≤ 16777216 := fun r hr => by have := b2 r hr; omega
  refine Ev.bind (toIntSS_ev m b1 b2) ?_
  refine Ev.bind (frmS_ev m (by omega) hin) ?_
  refine Ev.bind (toIntSS_ev m b1 b2) ?_
  refine Ev.bind (frmI_ev m (by omega) hin) ?_
  simp only [if_true]
  refine Ev.bind (toIntSS_ev m b1 b2) ?_
  refine Ev.bind (eqIntSS_self m (by omega) b3) ?_
  simp only [if_true]
  exact Ev.now true

end Go.Proofs.YticigcjojpdapaaDoor.Pure
