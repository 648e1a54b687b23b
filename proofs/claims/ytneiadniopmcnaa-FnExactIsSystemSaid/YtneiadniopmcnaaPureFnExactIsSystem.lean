/-
  For all arguments, the program's IsSystem returns what the reference's IsSystem returns.
  Conditions: none beside the given statement's own.
-/
import Derived.Test.YtneiadniopmcnaaPFnExactIsSystemx3
set_option linter.unusedSimpArgs false
set_option linter.unusedVariables false
namespace Go.Proofs.Ytneiadniopmcnaa.Pure
open Go.RowKit Go.Proofs.Ytneiadniopmcnaa.PFnExactIsSystem Go.Proofs.YtneiadniopmcnaaW.PrintWords Go.Proofs.YtneiadniopmcnaaW.PrintLast Go.Proofs.YtneiadniopmcnaaW.PrintMore

theorem wrap_id {x : Int} (h1 : -9223372036854775808 ≤ x) (h2 : x < 9223372036854775808) : wrap64 x = x := by unfold wrap64; omega
theorem rd_nat (l : List Int) (i : Nat) (h : i < l.length) : rd l (i : Int) = l[i] := by
  unfold rd; rw [Int.toNat_natCast, List.getD_eq_getElem?_getD, List.getElem?_eq_getElem h]; rfl
theorem wf64 {x : Int} (h : (Lit.int .i64 x).wf = true) : -9223372036854775808 ≤ x ∧ x < 9223372036854775808 := by
  have h1 : IntKind.i64.min = -9223372036854775808 := by decide
  have h2 : IntKind.i64.max = 9223372036854775807 := by decide
  simp only [Lit.wf, h1, h2, Bool.and_eq_true, decide_eq_true_eq] at h
  omega
theorem wf8 {x : Int} (h : (Lit.int .u8 x).wf = true) : 0 ≤ x ∧ x < 256 := by
  have h1 : IntKind.u8.min = 0 := by decide
  have h2 : IntKind.u8.max = 255 := by decide
  simp only [Lit.wf, h1, h2, Bool.and_eq_true, decide_eq_true_eq] at h
  omega
theorem set_take (l x : List Int) (i : Nat) (h : i < l.length) (hx : x.length = l.length) (ht : x.take i = l.take i) : (x.set i l[i]).take (i + 1) = l.take (i + 1) := by
  apply List.ext_getElem?
  intro j
  simp only [List.getElem?_take, List.getElem?_set]
  have hj : (x.take i)[j]? = (l.take i)[j]? := by rw [ht]
  simp only [List.getElem?_take] at hj
  by_cases h1 : j < i + 1
  · rw [if_pos h1, if_pos h1]
    by_cases h2 : i = j
    · subst h2; rw [if_pos rfl, if_pos (by omega), List.getElem?_eq_getElem h]
    · rw [if_neg h2]; rw [if_pos (by omega), if_pos (by omega)] at hj; exact hj
  · rw [if_neg h1, if_neg h1]
theorem drop_eq_cons (l : List Int) (i : Nat) (h : i < l.length) : l.drop i = l[i] :: l.drop (i + 1) := List.drop_eq_getElem_cons h
theorem cons_iff {a b : Int} (e : a = b) (l x : List Int) : (a :: l = b :: x) ↔ l = x := by
  rw [e]
  exact ⟨fun h => (List.cons.inj h).2, fun h => by rw [h]⟩
theorem take_full (l x : List Int) (i : Nat) (hi : l.length ≤ i) (hx : x.length = l.length) (ht : x.take i = l.take i) : x = l := by
  rwa [List.take_of_length_le (by omega), List.take_of_length_le hi] at ht

theorem toIntS_l0 (l : List Int) (hl : l.length ≤ 1048576) (d : Nat) : ∀ (i : Nat) (x : List Int), l.length - i = d → i ≤ l.length → x.length = l.length → x.take i = l.take i → Ev (fun k => laws_toIntS.l0 k l x (i : Int)) l := by
  induction d with
  | zero =>
    intro i x hd hi hx ht
    obtain rfl := take_full l x i (by omega) hx ht
    refine Ev.step (f := fun _ => some x) (fun k => ?_) (Ev.now x)
    simp only [laws_toIntS.l0]
    rw [if_neg (by omega)]
  | succ d ih =>
    intro i x hd hi hx ht
    have h : i < l.length := by omega
    refine Ev.step (f := fun k => laws_toIntS.l0 k l (x.set i l[i]) ((i + 1 : Nat) : Int)) (fun k => ?_) (ih (i + 1) _ (by omega) (by omega) (by simpa using hx) (set_take l x i h hx ht))
    simp only [laws_toIntS.l0]
    rw [if_pos (by omega), if_pos (by omega), if_pos (by omega), rd_nat l i h, wrap_id (by omega) (by omega), Int.toNat_natCast]
    rfl
theorem toIntS_ev (l : List Int) (hl : l.length ≤ 1048576) : Ev (fun k => laws_toIntS.f k l) l := by
  refine Ev.congr (f := fun k => laws_toIntS.l0 k l (List.replicate l.length 0) ((0 : Nat) : Int)) (fun k => ?_) (toIntS_l0 l hl l.length 0 _ (by omega) (by omega) (by simp) (by simp))
  unfold laws_toIntS.f
  rw [if_pos (by omega), Int.toNat_natCast, if_pos (by omega)]
  rfl

theorem eqIntS_l0 (l x : List Int) (hl : l.length ≤ 16777216) (hx : x.length = l.length) (d : Nat) : ∀ (i : Nat), l.length - i = d → i ≤ l.length → Ev (fun k => laws_eqIntS.l0 k l x (i : Int)) (decide (l.drop i = x.drop i)) := by
  induction d with
  | zero =>
    intro i hd hi
    rw [List.drop_eq_nil_of_le (by omega), List.drop_eq_nil_of_le (by omega), decide_eq_true rfl]
    refine Ev.step (f := fun _ => some true) (fun k => ?_) (Ev.now true)
    simp only [laws_eqIntS.l0]
    rw [if_neg (by omega)]
  | succ d ih =>
    intro i hd hi
    have h : i < l.length := by omega
    have h' : i < x.length := by omega
    rw [drop_eq_cons l i h, drop_eq_cons x i h']
    by_cases e : l[i] = x[i]
    · rw [decide_eq_decide.2 (cons_iff e _ _)]
      refine Ev.step (f := fun k => laws_eqIntS.l0 k l x ((i + 1 : Nat) : Int)) (fun k => ?_) (ih (i + 1) (by omega) (by omega))
      simp only [laws_eqIntS.l0]
      rw [if_pos (by omega), if_pos (by omega), if_pos (by omega), rd_nat l i h, rd_nat x i h', if_pos e, wrap_id (by omega) (by omega)]
      rfl
    · rw [decide_eq_false fun h => e (List.cons.inj h).1]
      refine Ev.step (f := fun _ => some false) (fun k => ?_) (Ev.now false)
      simp only [laws_eqIntS.l0]
      rw [if_pos (by omega), if_pos (by omega), if_pos (by omega), rd_nat l i h, rd_nat x i h', if_neg e]
theorem eqIntS_ev (l x : List Int) (hl : l.length ≤ 16777216) : Ev (fun k => laws_eqIntS.f k l x) (decide (l = x)) := by
  by_cases e : l.length = x.length
  · refine Ev.congr (f := fun k => laws_eqIntS.l0 k l x ((0 : Nat) : Int)) (fun k => ?_) (by simpa using eqIntS_l0 l x hl e.symm l.length 0 (by omega) (by omega))
    unfold laws_eqIntS.f
    rw [if_pos (by omega)]
    rfl
  · rw [decide_eq_false (fun h => e (by rw [h]))]
    refine Ev.congr (f := fun _ => some false) (fun k => ?_) (Ev.now false)
    unfold laws_eqIntS.f
    rw [if_neg (by omega)]
theorem eqIntS_self (l : List Int) (hl : l.length ≤ 16777216) : Ev (fun k => laws_eqIntS.f k l l) true := by
  simpa using eqIntS_ev l l hl

theorem l1In_eq (a b c : Int) : spec_l1In.f a b c = some (decide (b ≤ a ∧ a ≤ c)) := by
  unfold spec_l1In.f
  by_cases h : a ≥ b
  · rw [if_pos h]; congr 1; by_cases h2 : a ≤ c <;> simp [h2] <;> omega
  · rw [if_neg h]; congr 1; simp; omega
theorem InRange_eq (a b c : Int) : impl_InRange.f a b c = some (decide (b ≤ a ∧ a ≤ c)) := by
  unfold impl_InRange.f
  by_cases h : b ≤ a
  · rw [if_pos h]; congr 1; by_cases h2 : a ≤ c <;> simp [h2] <;> omega
  · rw [if_neg h]; congr 1; simp; omega

theorem rdL_nat (l : List (List Int)) (i : Nat) (h : i < l.length) : rd_L1 l (i : Int) = l[i] := by
  unfold rd_L1
  rw [Int.toNat_natCast, List.getD_eq_getElem?_getD, List.getElem?_eq_getElem h]; rfl
theorem drop_consL (l : List (List Int)) (i : Nat) (h : i < l.length) : l.drop i = l[i] :: l.drop (i + 1) := List.drop_eq_getElem_cons h

def sumLen : List (List Int) → Nat
  | [] => 0
  | r :: l => r.length + sumLen l
theorem len_le_sum (l : List (List Int)) : ∀ r ∈ l, r.length ≤ sumLen l := by
  induction l with
  | nil => intro r h; cases h
  | cons a l ih =>
    intro r h
    simp only [sumLen]
    rcases List.mem_cons.1 h with rfl | h
    · omega
    · have := ih r h; omega
theorem sz_eq (r : List Int) (a : Int) (hr : r.length ≤ maxLen) (h0 : 0 ≤ a) (h1 : a ≤ 1048576) : laws_szIntS.f r a = some (if a - r.length < 0 then -1 else a - r.length) := by
  unfold laws_szIntS.f
  unfold maxLen at hr
  rw [wrap_id (by omega) (by omega)]
  split <;> rfl
theorem szSS_l0 (l : List (List Int)) (hm : ∀ r ∈ l, r.length ≤ maxLen) (hl : l.length ≤ 1048576) (d : Nat) : ∀ (i : Nat) (a : Int), l.length - i = d → 0 ≤ a → a ≤ 1048576 → ∃ r, Ev (fun k => laws_szIntSS.l0 k l a (i : Int)) r ∧ (0 ≤ r → r + sumLen (l.drop i) = a) := by
  induction d with
  | zero =>
    intro i a hd h0 h1
    refine ⟨a, Ev.step (f := fun _ => some a) (fun k => ?_) (Ev.now a), fun _ => by rw [List.drop_eq_nil_of_le (by omega)]; simp [sumLen]⟩
    simp only [laws_szIntSS.l0]
    rw [if_neg (by omega)]
  | succ d ih =>
    intro i a hd h0 h1
    have h : i < l.length := by omega
    have hs := sz_eq l[i] a (hm _ (List.getElem_mem h)) h0 h1
    by_cases c : a - l[i].length < 0
    · rw [if_pos c] at hs
      refine ⟨-1, Ev.step (f := fun _ => some (-1)) (fun k => ?_) (Ev.now (-1)), fun h => by omega⟩
      simp only [laws_szIntSS.l0]
      rw [if_pos (by omega), if_pos (by omega), rdL_nat l i h, hs]
      rfl
    · rw [if_neg c] at hs
      obtain ⟨r, hr, hr'⟩ := ih (i + 1) (a - l[i].length) (by omega) (by omega) (by omega)
      refine ⟨r, Ev.step (f := fun k => laws_szIntSS.l0 k l (a - l[i].length) ((i + 1 : Nat) : Int)) (fun k => ?_) hr, fun h0 => ?_⟩
      · simp only [laws_szIntSS.l0]
        rw [if_pos (by omega), if_pos (by omega), rdL_nat l i h, hs]
        simp only [Option.bind_some]
        rw [if_neg (by omega), wrap_id (by omega) (by omega)]
        rfl
      · have := hr' h0
        rw [drop_consL l i h]
        simp only [sumLen]
        omega
theorem szSS_ev (l : List (List Int)) (hlm : l.length ≤ maxLen) (hm : ∀ r ∈ l, r.length ≤ maxLen) : ∃ r, Ev (fun k => laws_szIntSS.f k l 1048576) r ∧ (0 ≤ r → l.length + sumLen l ≤ 1048576) := by
  unfold laws_szIntSS.f
  have hw : wrap64 (1048576 - (l.length : Int)) = 1048576 - (l.length : Int) := by
    unfold maxLen at hlm
    exact wrap_id (by omega) (by omega)
  by_cases c : 1048576 - (l.length : Int) < 0
  · refine ⟨-1, ?_, fun h => by omega⟩
    simp only [hw, if_pos c]
    exact Ev.now _
  · obtain ⟨r, hr, hr'⟩ := szSS_l0 l hm (by omega) l.length 0 (1048576 - (l.length : Int)) (by omega) (by omega) (by omega)
    refine ⟨r, ?_, fun h => by have := hr' h; simp at this; omega⟩
    simp only [hw, if_neg c]
    exact hr

theorem set_takeL (l x : List (List Int)) (i : Nat) (h : i < l.length) (hx : x.length = l.length) (ht : x.take i = l.take i) : (x.set i l[i]).take (i + 1) = l.take (i + 1) := by
  apply List.ext_getElem?
  intro j
  simp only [List.getElem?_take, List.getElem?_set]
  have hj : (x.take i)[j]? = (l.take i)[j]? := by rw [ht]
  simp only [List.getElem?_take] at hj
  by_cases h1 : j < i + 1
  · rw [if_pos h1, if_pos h1]
    by_cases h2 : i = j
    · subst h2; rw [if_pos rfl, if_pos (by omega), List.getElem?_eq_getElem h]
    · rw [if_neg h2]; rw [if_pos (by omega), if_pos (by omega)] at hj; exact hj
  · rw [if_neg h1, if_neg h1]
theorem toIntSS_l0 (l : List (List Int)) (hl : l.length ≤ 1048576) (hm : ∀ r ∈ l, r.length ≤ 1048576) (d : Nat) : ∀ (i : Nat) (x : List (List Int)), l.length - i = d → i ≤ l.length → x.length = l.length → x.take i = l.take i → Ev (fun k => laws_toIntSS.l0 k l x (i : Int)) l := by
  induction d with
  | zero =>
    intro i x hd hi hx ht
    have e : x = l := by rwa [List.take_of_length_le (by omega), List.take_of_length_le (by omega)] at ht
    subst e
    refine Ev.step (f := fun _ => some x) (fun k => ?_) (Ev.now x)
    simp only [laws_toIntSS.l0]
    rw [if_neg (by omega)]
  | succ d ih =>
    intro i x hd hi hx ht
    have h : i < l.length := by omega
    refine Ev.step (f := fun k => (laws_toIntS.f k l[i]).bind fun t => if (i : Int) < (x.length : Int) then laws_toIntSS.l0 k l (x.set i t) ((i + 1 : Nat) : Int) else none) (fun k => ?_) (Ev.bind (toIntS_ev l[i] (hm _ (List.getElem_mem h))) ?_)
    · simp only [laws_toIntSS.l0]
      rw [if_pos (by omega), if_pos (by omega), rdL_nat l i h, wrap_id (by omega) (by omega), Int.toNat_natCast]
      rfl
    · simp only [if_pos (show (i : Int) < (x.length : Int) by omega)]
      exact ih (i + 1) _ (by omega) (by omega) (by simpa using hx) (set_takeL l x i h hx ht)
theorem toIntSS_ev (l : List (List Int)) (hl : l.length ≤ 1048576) (hm : ∀ r ∈ l, r.length ≤ 1048576) : Ev (fun k => laws_toIntSS.f k l) l := by
  refine Ev.congr (f := fun k => laws_toIntSS.l0 k l (List.replicate l.length []) ((0 : Nat) : Int)) (fun k => ?_) (toIntSS_l0 l hl hm l.length 0 _ (by omega) (by omega) (by simp) (by simp))
  unfold laws_toIntSS.f
  rw [if_pos (by omega), Int.toNat_natCast, if_pos (by omega)]
  rfl

theorem eqIntSS_l0 (l : List (List Int)) (hl : l.length ≤ 16777216) (hm : ∀ r ∈ l, r.length ≤ 16777216) (d : Nat) : ∀ (i : Nat), l.length - i = d → Ev (fun k => laws_eqIntSS.l0 k l l (i : Int)) true := by
  induction d with
  | zero =>
    intro i hd
    refine Ev.step (f := fun _ => some true) (fun k => ?_) (Ev.now true)
    simp only [laws_eqIntSS.l0]
    rw [if_neg (by omega)]
  | succ d ih =>
    intro i hd
    have h : i < l.length := by omega
    refine Ev.step (f := fun k => (laws_eqIntS.f k l[i] l[i]).bind fun t => if t = true then laws_eqIntSS.l0 k l l ((i + 1 : Nat) : Int) else some false) (fun k => ?_) (Ev.bind (eqIntS_self l[i] (hm _ (List.getElem_mem h))) ?_)
    · simp only [laws_eqIntSS.l0]
      rw [if_pos (by omega), if_pos (by omega), if_pos (by omega), rdL_nat l i h, wrap_id (by omega) (by omega)]
      rfl
    · simp only [if_true]
      exact ih (i + 1) (by omega)
theorem eqIntSS_self (l : List (List Int)) (hl : l.length ≤ 16777216) (hm : ∀ r ∈ l, r.length ≤ 16777216) : Ev (fun k => laws_eqIntSS.f k l l) true := by
  refine Ev.congr (f := fun k => laws_eqIntSS.l0 k l l ((0 : Nat) : Int)) (fun k => ?_) (eqIntSS_l0 l hl hm l.length 0 (by omega))
  unfold laws_eqIntSS.f
  rw [if_pos rfl]
  rfl

def rowOk (c : Int) (r : List Int) : Bool := decide ((r.length : Int) = c) && r.all fun x => decide (-2 ≤ x ∧ x ≤ 2)
def isMat (l : List (List Int)) (c : Int) : Bool := decide (1 ≤ c ∧ c ≤ 6) && decide (l.length ≤ 12) && l.all (rowOk c)

theorem allIn_l0 (l : List Int) (hl : l.length ≤ 16777216) (a b : Int) (d : Nat) : ∀ (i : Nat), l.length - i = d → Ev (fun k => impl_allIn.l0 k a b l (l.length : Int) (i : Int)) ((l.drop i).all fun x => decide (a ≤ x ∧ x ≤ b)) := by
  induction d with
  | zero =>
    intro i hd
    rw [List.drop_eq_nil_of_le (by omega)]
    refine Ev.step (f := fun _ => some true) (fun k => ?_) (Ev.now true)
    simp only [impl_allIn.l0]
    rw [if_neg (by omega)]
  | succ d ih =>
    intro i hd
    have h : i < l.length := by omega
    rw [drop_eq_cons l i h, List.all_cons]
    by_cases c : a ≤ l[i] ∧ l[i] ≤ b
    · rw [decide_eq_true c, Bool.true_and]
      refine Ev.step (f := fun k => impl_allIn.l0 k a b l (l.length : Int) ((i + 1 : Nat) : Int)) (fun k => ?_) (ih (i + 1) (by omega))
      simp only [impl_allIn.l0]
      rw [if_pos (by omega), if_pos (by omega), if_pos (by omega), rd_nat l i h, InRange_eq, decide_eq_true c]
      simp only [Option.bind_some, if_true]
      rw [wrap_id (by omega) (by omega)]
      rfl
    · rw [decide_eq_false c, Bool.false_and]
      refine Ev.step (f := fun _ => some false) (fun k => ?_) (Ev.now false)
      simp only [impl_allIn.l0]
      rw [if_pos (by omega), if_pos (by omega), if_pos (by omega), rd_nat l i h, InRange_eq, decide_eq_false c]
      simp only [Option.bind_some, Bool.false_eq_true, if_false]
theorem allIn_ev (l : List Int) (hl : l.length ≤ 16777216) (a b : Int) : Ev (fun k => impl_allIn.f k l a b) (l.all fun x => decide (a ≤ x ∧ x ≤ b)) := by
  have := allIn_l0 l hl a b l.length 0 (by omega)
  exact this

theorem implMat_l0 (l : List (List Int)) (hl : l.length ≤ 16777216) (hm : ∀ r ∈ l, r.length ≤ 16777216) (c : Int) (d : Nat) : ∀ (i : Nat), l.length - i = d → Ev (fun k => impl_IsMatrix.l0 k c l (l.length : Int) (i : Int)) ((l.drop i).all (rowOk c)) := by
  induction d with
  | zero =>
    intro i hd
    rw [List.drop_eq_nil_of_le (by omega)]
    refine Ev.step (f := fun _ => some true) (fun k => ?_) (Ev.now true)
    simp only [impl_IsMatrix.l0]
    rw [if_neg (by omega)]
  | succ d ih =>
    intro i hd
    have h : i < l.length := by omega
    rw [drop_consL l i h, List.all_cons]
    by_cases c1 : (l[i].length : Int) = c
    · have e : rowOk c l[i] = l[i].all fun x => decide (-2 ≤ x ∧ x ≤ 2) := by unfold rowOk; rw [decide_eq_true c1, Bool.true_and]
      rw [e]
      refine Ev.step (f := fun k => (impl_allIn.f k l[i] (-2) 2).bind fun t => if t = true then impl_IsMatrix.l0 k c l (l.length : Int) ((i + 1 : Nat) : Int) else some false) (fun k => ?_) (Ev.bind (allIn_ev l[i] (hm _ (List.getElem_mem h)) (-2) 2) ?_)
      · simp only [impl_IsMatrix.l0]
        rw [if_pos (by omega), if_pos (by omega), if_pos (by omega), rdL_nat l i h, if_pos c1, wrap_id (by omega) (by omega)]
        rfl
      · cases l[i].all fun x => decide (-2 ≤ x ∧ x ≤ 2) with
        | true => simp only [if_true, Bool.true_and]; exact ih (i + 1) (by omega)
        | false => simp only [Bool.false_eq_true, if_false, Bool.false_and]; exact Ev.now _
    · have e : rowOk c l[i] = false := by unfold rowOk; rw [decide_eq_false c1, Bool.false_and]
      rw [e, Bool.false_and]
      refine Ev.step (f := fun _ => some false) (fun k => ?_) (Ev.now false)
      simp only [impl_IsMatrix.l0]
      rw [if_pos (by omega), if_pos (by omega), if_pos (by omega), rdL_nat l i h, if_neg c1]
theorem implMat_ev (l : List (List Int)) (hl : l.length ≤ 16777216) (hm : ∀ r ∈ l, r.length ≤ 16777216) (c : Int) : Ev (fun k => impl_IsMatrix.f k l c) (isMat l c) := by
  unfold impl_IsMatrix.f isMat
  simp only [InRange_eq, Option.bind_some]
  by_cases c1 : 1 ≤ c ∧ c ≤ 6
  · simp only [decide_eq_true c1, if_true, Bool.true_and]
    by_cases c2 : l.length ≤ 12
    · rw [decide_eq_true c2, Bool.true_and, decide_eq_false (show ¬ ((l.length : Int) > 12) by omega)]
      refine Ev.step (fun k => impl_IsMatrix.j0.eq_2 _ _ _ _) ?_
      simp only [Bool.false_eq_true, if_false]
      exact implMat_l0 l hl hm c l.length 0 (by omega)
    · rw [decide_eq_false c2, Bool.false_and, decide_eq_true (show (l.length : Int) > 12 by omega)]
      refine Ev.step (fun k => impl_IsMatrix.j0.eq_2 _ _ _ _) ?_
      simp only [if_true]
      exact Ev.now _
  · simp only [decide_eq_false c1, Bool.false_eq_true, if_false, Bool.false_and]
    refine Ev.step (fun k => impl_IsMatrix.j0.eq_2 _ _ _ _) ?_
    simp only [if_true]
    exact Ev.now _

theorem specMat_l1 (l : List (List Int)) (hl : l.length ≤ 16777216) (c : Int) (i : Nat) (h : i < l.length) (hc : (l[i].length : Int) = c) (hr : l[i].length ≤ 16777216) (R : Bool) (hR : Ev (fun k => spec_IsMatrix.l0 k l c ((i + 1 : Nat) : Int)) R) (d : Nat) : ∀ j : Nat, l[i].length - j = d → Ev (fun k => spec_IsMatrix.l1 k l c (i : Int) (j : Int)) (((l[i].drop j).all fun x => decide (-2 ≤ x ∧ x ≤ 2)) && R) := by
  induction d with
  | zero =>
    intro j hd
    rw [List.drop_eq_nil_of_le (by omega)]
    refine Ev.step (f := fun k => spec_IsMatrix.l0 k l c ((i + 1 : Nat) : Int)) (fun k => ?_) (by simpa using hR)
    simp only [spec_IsMatrix.l1]
    rw [if_neg (by omega), wrap_id (by omega) (by omega)]
    rfl
  | succ d ih =>
    intro j hd
    have hj : j < l[i].length := by omega
    rw [drop_eq_cons l[i] j hj, List.all_cons]
    by_cases c1 : -2 ≤ l[i][j] ∧ l[i][j] ≤ 2
    · rw [decide_eq_true c1, Bool.true_and]
      refine Ev.step (f := fun k => spec_IsMatrix.l1 k l c (i : Int) ((j + 1 : Nat) : Int)) (fun k => ?_) (ih (j + 1) (by omega))
      simp only [spec_IsMatrix.l1]
      rw [if_pos (by omega), if_pos (by omega), if_pos (by omega), if_pos (by omega), rdL_nat l i h, if_pos (by omega), rd_nat _ j hj, l1In_eq, decide_eq_true c1]
      simp only [Option.bind_some, if_true]
      rw [wrap_id (by omega) (by omega)]
      rfl
    · rw [decide_eq_false c1, Bool.false_and, Bool.false_and]
      refine Ev.step (f := fun _ => some false) (fun k => ?_) (Ev.now false)
      simp only [spec_IsMatrix.l1]
      rw [if_pos (by omega), if_pos (by omega), if_pos (by omega), if_pos (by omega), rdL_nat l i h, if_pos (by omega), rd_nat _ j hj, l1In_eq, decide_eq_false c1]
      simp only [Option.bind_some, Bool.false_eq_true, if_false]
theorem specMat_l0 (l : List (List Int)) (hl : l.length ≤ 16777216) (hm : ∀ r ∈ l, r.length ≤ 16777216) (c : Int) (d : Nat) : ∀ (i : Nat), l.length - i = d → Ev (fun k => spec_IsMatrix.l0 k l c (i : Int)) ((l.drop i).all (rowOk c)) := by
  induction d with
  | zero =>
    intro i hd
    rw [List.drop_eq_nil_of_le (by omega)]
    refine Ev.step (f := fun _ => some true) (fun k => ?_) (Ev.now true)
    simp only [spec_IsMatrix.l0]
    rw [if_neg (by omega)]
  | succ d ih =>
    intro i hd
    have h : i < l.length := by omega
    rw [drop_consL l i h, List.all_cons]
    by_cases c1 : (l[i].length : Int) = c
    · have e : rowOk c l[i] = l[i].all fun x => decide (-2 ≤ x ∧ x ≤ 2) := by unfold rowOk; rw [decide_eq_true c1, Bool.true_and]
      rw [e]
      refine Ev.step (f := fun k => spec_IsMatrix.l1 k l c (i : Int) ((0 : Nat) : Int)) (fun k => ?_) (specMat_l1 l hl c i h c1 (hm _ (List.getElem_mem h)) _ (ih (i + 1) (by omega)) l[i].length 0 (by omega))
      simp only [spec_IsMatrix.l0]
      rw [if_pos (by omega), if_pos (by omega), rdL_nat l i h, if_pos c1]
      rfl
    · have e : rowOk c l[i] = false := by unfold rowOk; rw [decide_eq_false c1, Bool.false_and]
      rw [e, Bool.false_and]
      refine Ev.step (f := fun _ => some false) (fun k => ?_) (Ev.now false)
      simp only [spec_IsMatrix.l0]
      rw [if_pos (by omega), if_pos (by omega), rdL_nat l i h, if_neg c1]
theorem specMat_ev (l : List (List Int)) (hl : l.length ≤ 16777216) (hm : ∀ r ∈ l, r.length ≤ 16777216) (c : Int) : Ev (fun k => spec_IsMatrix.f k l c) (isMat l c) := by
  unfold spec_IsMatrix.f isMat
  simp only [l1In_eq, Option.bind_some]
  by_cases c1 : 1 ≤ c ∧ c ≤ 6
  · simp only [decide_eq_true c1, if_true, Bool.true_and]
    by_cases c2 : l.length ≤ 12
    · rw [decide_eq_true c2, Bool.true_and, decide_eq_false (show ¬ ((l.length : Int) > 12) by omega)]
      refine Ev.step (fun k => spec_IsMatrix.j0.eq_2 _ _ _ _) ?_
      simp only [Bool.false_eq_true, if_false]
      exact specMat_l0 l hl hm c l.length 0 (by omega)
    · rw [decide_eq_false c2, Bool.false_and, decide_eq_true (show (l.length : Int) > 12 by omega)]
      refine Ev.step (fun k => spec_IsMatrix.j0.eq_2 _ _ _ _) ?_
      simp only [if_true]
      exact Ev.now _
  · simp only [decide_eq_false c1, Bool.false_eq_true, if_false, Bool.false_and]
    refine Ev.step (fun k => spec_IsMatrix.j0.eq_2 _ _ _ _) ?_
    simp only [if_true]
    exact Ev.now _

def isSys (l : List (List Int)) (v : List Int) (c : Int) : Bool := isMat l c && decide (v.length = l.length) && v.all fun x => decide (-1000 ≤ x ∧ x ≤ 1000)
theorem implSys_ev (l : List (List Int)) (v : List Int) (hl : l.length ≤ 16777216) (hm : ∀ r ∈ l, r.length ≤ 16777216) (hv : v.length ≤ 16777216) (c : Int) : Ev (fun k => impl_IsSystem.f k l v c) (isSys l v c) := by
  unfold impl_IsSystem.f isSys
  refine Ev.bind (implMat_ev l hl hm c) ?_
  cases isMat l c with
  | false => simp only [Bool.false_eq_true, if_false, Bool.false_and]; exact Ev.now _
  | true =>
    simp only [if_true, Bool.true_and]
    by_cases c1 : v.length = l.length
    · simp only [if_pos (show (v.length : Int) = (l.length : Int) by omega), decide_eq_true c1, Bool.true_and]
      exact Ev.bind (allIn_ev v hv (-1000) 1000) (Ev.now _)
    · simp only [if_neg (show ¬ ((v.length : Int) = (l.length : Int)) by omega), decide_eq_false c1, Bool.false_and]
      exact Ev.now _
theorem specSys_l0 (l : List (List Int)) (v : List Int) (hl : l.length ≤ 16777216) (hm : ∀ r ∈ l, r.length ≤ 16777216) (hv : v.length ≤ 16777216) (c : Int) (d : Nat) : ∀ (i : Nat), v.length - i = d → Ev (fun k => spec_IsSystem.l0 k l v c (i : Int)) (((v.drop i).all fun x => decide (-1000 ≤ x ∧ x ≤ 1000)) && (isMat l c && decide (v.length = l.length))) := by
  induction d with
  | zero =>
    intro i hd
    rw [List.drop_eq_nil_of_le (by omega), List.all_nil, Bool.true_and]
    refine Ev.step (f := fun k => (spec_IsMatrix.f k l c).bind fun t => if t = true then some ((v.length : Int) == (l.length : Int)) else some false) (fun k => ?_) (Ev.bind (specMat_ev l hl hm c) ?_)
    · simp only [spec_IsSystem.l0]
      rw [if_neg (by omega)]
    · cases isMat l c with
      | false => simp only [Bool.false_eq_true, if_false, Bool.false_and]; exact Ev.now _
      | true =>
        simp only [if_true, Bool.true_and]
        have e : ((v.length : Int) == (l.length : Int)) = decide (v.length = l.length) := by
          rw [Bool.eq_iff_iff, beq_iff_eq, decide_eq_true_iff]
          omega
        rw [e]
        exact Ev.now _
  | succ d ih =>
    intro i hd
    have h : i < v.length := by omega
    rw [drop_eq_cons v i h, List.all_cons]
    by_cases c1 : -1000 ≤ v[i] ∧ v[i] ≤ 1000
    · rw [decide_eq_true c1, Bool.true_and]
      refine Ev.step (f := fun k => spec_IsSystem.l0 k l v c ((i + 1 : Nat) : Int)) (fun k => ?_) (ih (i + 1) (by omega))
      simp only [spec_IsSystem.l0]
      rw [if_pos (by omega), if_pos (by omega), rd_nat v i h, l1In_eq, decide_eq_true c1]
      simp only [Option.bind_some, if_true]
      rw [wrap_id (by omega) (by omega)]
      rfl
    · rw [decide_eq_false c1, Bool.false_and, Bool.false_and]
      refine Ev.step (f := fun _ => some false) (fun k => ?_) (Ev.now false)
      simp only [spec_IsSystem.l0]
      rw [if_pos (by omega), if_pos (by omega), rd_nat v i h, l1In_eq, decide_eq_false c1]
      simp only [Option.bind_some, Bool.false_eq_true, if_false]
theorem specSys_ev (l : List (List Int)) (v : List Int) (hl : l.length ≤ 16777216) (hm : ∀ r ∈ l, r.length ≤ 16777216) (hv : v.length ≤ 16777216) (c : Int) : Ev (fun k => spec_IsSystem.f k l v c) (isSys l v c) := by
  have := specSys_l0 l v hl hm hv c v.length 0 (by omega)
  rw [Bool.and_comm] at this
  exact this

theorem FnExactIsSystem : ∀ (m : List (List Int)) (v : List Int) (c : Int), m.length ≤ maxLen → (∀ r ∈ m, r.length ≤ maxLen ∧ ∀ x ∈ r, (Lit.int .i64 x).wf = true) → v.length ≤ maxLen → (∀ x ∈ v, (Lit.int .i64 x).wf = true) → (Lit.int .i64 c).wf = true → ∃ k, laws_FnExactIsSystem.f k m v c = some true := by
  intro m v c hlm hw _ _ _
  have hm : ∀ r ∈ m, r.length ≤ maxLen := fun r hr => (hw r hr).1
  refine Ev.rounds ?_
  unfold laws_FnExactIsSystem.f
  by_cases c_v : (v.length : Int) > 1048576
  · simp only [if_pos c_v]; exact Ev.now true
  have b_v : v.length ≤ 1048576 := by omega
  simp only [if_neg c_v]
  obtain ⟨s, hs, hs'⟩ := szSS_ev m hlm hm
  refine Ev.bind hs ?_
  by_cases cs : s < 0
  · simp only [if_pos cs]; exact Ev.now true
  simp only [if_neg cs]
  have hsum := hs' (by omega)
  have b1 : m.length ≤ 1048576 := by omega
  have b2 : ∀ r ∈ m, r.length ≤ 1048576 := fun r hr => by have := len_le_sum m r hr; omega
  have b3 : ∀ r ∈ m, r.length ≤ 16777216 := fun r hr => by have := b2 r hr; omega
  refine Ev.bind (toIntSS_ev m b1 b2) ?_
  refine Ev.bind (toIntS_ev v b_v) ?_
  refine Ev.bind (specSys_ev m v (by omega) b3 (by omega) c) ?_
  refine Ev.bind (toIntSS_ev m b1 b2) ?_
  refine Ev.bind (toIntS_ev v b_v) ?_
  refine Ev.bind (implSys_ev m v (by omega) b3 (by omega) c) ?_
  simp only [bne_self_eq_false, Bool.false_eq_true, if_false]
  refine Ev.bind (toIntSS_ev m b1 b2) ?_
  refine Ev.bind (eqIntSS_self m (by omega) b3) ?_
  simp only [if_true]
  refine Ev.bind (toIntS_ev v b_v) ?_
  refine Ev.bind (eqIntS_self v (by omega)) ?_
  simp only [if_true]
  exact Ev.now true

end Go.Proofs.Ytneiadniopmcnaa.Pure
