/-
  For all arguments, the program's ReduceRows returns what the reference's ReduceRows returns.
  Conditions: none beside the given statement's own.
-/
import Derived.Test.YtojkepidkmkmpaaPFnExactReduceRowsx8
import Derived.Test.YtojkepidkmkmpaaAlg
set_option linter.unusedSimpArgs false
set_option linter.unusedVariables false
namespace Go.Proofs.Ytojkepidkmkmpaa.Pure
open Go.RowKit Go.Proofs.Ytojkepidkmkmpaa.PFnExactReduceRows Go.Proofs.YtojkepidkmkmpaaW.PrintWords Go.Proofs.YtojkepidkmkmpaaW.PrintLast Go.Proofs.YtojkepidkmkmpaaW.PrintMore Go.Proofs.YtojkepidkmkmpaaAlg

theorem wrap_id {x : Int} (h1 : -9223372036854775808 ≤ x) (h2 : x < 9223372036854775808) : wrap64 x = x := by unfold wrap64; omega
theorem rd_nat (l : List Int) (i : Nat) (h : i < l.length) : rd l (i : Int) = l[i] := by
  unfold rd; rw [Int.toNat_natCast, List.getD_eq_getElem?_getD, List.getElem?_eq_getElem h]; rfl
theorem wf64 {x : Int} (h : (Lit.int .i64 x).wf = true) : -9223372036854775808 ≤ x ∧ x < 9223372036854775808 := by
  have h1 : IntKind.i64.min = -9223372036854775808 := by decide
  have h2 : IntKind.i64.max = 9223372036854775807 := by decide
  simp only [Lit.wf, h1, h2, Bool.and_eq_true, decide_eq_true_eq] at h
  omega
theorem wf8 {x : Int} (h : (Lit.int .u8 x).wf = true) : 0 ≤ x ∧ x < 256 := by
  have h1 : IntKind.u8.min = 0 := by decide
  have h2 : IntKind.u8.max = 255 := by decide
  simp only [Lit.wf, h1, h2, Bool.and_eq_true, decide_eq_true_eq] at h
  omega
theorem set_take (l x : List Int) (i : Nat) (h : i < l.length) (hx : x.length = l.length) (ht : x.take i = l.take i) : (x.set i l[i]).take (i + 1) = l.take (i + 1) := by
  apply List.ext_getElem?
  intro j
  simp only [List.getElem?_take, List.getElem?_set]
  have hj : (x.take i)[j]? = (l.take i)[j]? := by rw [ht]
  simp only [List.getElem?_take] at hj
  by_cases h1 : j < i + 1
  · rw [if_pos h1, if_pos h1]
    by_cases h2 : i = j
    · subst h2; rw [if_pos rfl, if_pos (by omega), List.getElem?_eq_getElem h]
    · rw [if_neg h2]; rw [if_pos (by omega), if_pos (by omega)] at hj; exact hj
  · rw [if_neg h1, if_neg h1]
theorem drop_eq_cons (l : List Int) (i : Nat) (h : i < l.length) : l.drop i = l[i] :: l.drop (i + 1) := List.drop_eq_getElem_cons h
theorem cons_iff {a b : Int} (e : a = b) (l x : List Int) : (a :: l = b :: x) ↔ l = x := by
  rw [e]
  exact ⟨fun h => (List.cons.inj h).2, fun h => by rw [h]⟩
theorem take_full (l x : List Int) (i : Nat) (hi : l.length ≤ i) (hx : x.length = l.length) (ht : x.take i = l.take i) : x = l := by
  rwa [List.take_of_length_le (by omega), List.take_of_length_le hi] at ht

theorem toIntS_l0 (l : List Int) (hl : l.length ≤ 1048576) (d : Nat) : ∀ (i : Nat) (x : List Int), l.length - i = d → i ≤ l.length → x.length = l.length → x.take i = l.take i → Ev (fun k => laws_toIntS.l0 k l x (i : Int)) l := by
  induction d with
  | zero =>
    intro i x hd hi hx ht
    obtain rfl := take_full l x i (by omega) hx ht
    refine Ev.step (f := fun _ => some x) (fun k => ?_) (Ev.now x)
    simp only [laws_toIntS.l0]
    rw [if_neg (by omega)]
  | succ d ih =>
    intro i x hd hi hx ht
    have h : i < l.length := by omega
    refine Ev.step (f := fun k => laws_toIntS.l0 k l (x.set i l[i]) ((i + 1 : Nat) : Int)) (fun k => ?_) (ih (i + 1) _ (by omega) (by omega) (by simpa using hx) (set_take l x i h hx ht))
    simp only [laws_toIntS.l0]
    rw [if_pos (by omega), if_pos (by omega), if_pos (by omega), rd_nat l i h, wrap_id (by omega) (by omega), Int.toNat_natCast]
    rfl
theorem toIntS_ev (l : List Int) (hl : l.length ≤ 1048576) : Ev (fun k => laws_toIntS.f k l) l := by
  refine Ev.congr (f := fun k => laws_toIntS.l0 k l (List.replicate l.length 0) ((0 : Nat) : Int)) (fun k => ?_) (toIntS_l0 l hl l.length 0 _ (by omega) (by omega) (by simp) (by simp))
  unfold laws_toIntS.f
  rw [if_pos (by omega), Int.toNat_natCast, if_pos (by omega)]
  rfl

theorem eqIntS_l0 (l x : List Int) (hl : l.length ≤ 16777216) (hx : x.length = l.length) (d : Nat) : ∀ (i : Nat), l.length - i = d → i ≤ l.length → Ev (fun k => laws_eqIntS.l0 k l x (i : Int)) (decide (l.drop i = x.drop i)) := by
  induction d with
  | zero =>
    intro i hd hi
    rw [List.drop_eq_nil_of_le (by omega), List.drop_eq_nil_of_le (by omega), decide_eq_true rfl]
    refine Ev.step (f := fun _ => some true) (fun k => ?_) (Ev.now true)
    simp only [laws_eqIntS.l0]
    rw [if_neg (by omega)]
  | succ d ih =>
    intro i hd hi
    have h : i < l.length := by omega
    have h' : i < x.length := by omega
    rw [drop_eq_cons l i h, drop_eq_cons x i h']
    by_cases e : l[i] = x[i]
    · rw [decide_eq_decide.2 (cons_iff e _ _)]
      refine Ev.step (f := fun k => laws_eqIntS.l0 k l x ((i + 1 : Nat) : Int)) (fun k => ?_) (ih (i + 1) (by omega) (by omega))
      simp only [laws_eqIntS.l0]
      rw [if_pos (by omega), if_pos (by omega), if_pos (by omega), rd_nat l i h, rd_nat x i h', if_pos e, wrap_id (by omega) (by omega)]
      rfl
    · rw [decide_eq_false fun h => e (List.cons.inj h).1]
      refine Ev.step (f := fun _ => some false) (fun k => ?_) (Ev.now false)
      simp only [laws_eqIntS.l0]
      rw [if_pos (by omega), if_pos (by omega), if_pos (by omega), rd_nat l i h, rd_nat x i h', if_neg e]
theorem eqIntS_ev (l x : List Int) (hl : l.length ≤ 16777216) : Ev (fun k => laws_eqIntS.f k l x) (decide (l = x)) := by
  by_cases e : l.length = x.length
  · refine Ev.congr (f := fun k => laws_eqIntS.l0 k l x ((0 : Nat) : Int)) (fun k => ?_) (by simpa using eqIntS_l0 l x hl e.symm l.length 0 (by omega) (by omega))
    unfold laws_eqIntS.f
    rw [if_pos (by omega)]
    rfl
  · rw [decide_eq_false (fun h => e (by rw [h]))]
    refine Ev.congr (f := fun _ => some false) (fun k => ?_) (Ev.now false)
    unfold laws_eqIntS.f
    rw [if_neg (by omega)]
theorem eqIntS_self (l : List Int) (hl : l.length ≤ 16777216) : Ev (fun k => laws_eqIntS.f k l l) true := by
  simpa using eqIntS_ev l l hl

theorem l1In_eq (a b c : Int) : spec_l1In.f a b c = some (decide (b ≤ a ∧ a ≤ c)) := by
  unfold spec_l1In.f
  by_cases h : a ≥ b
  · rw [if_pos h]; congr 1; by_cases h2 : a ≤ c <;> simp [h2] <;> omega
  · rw [if_neg h]; congr 1; simp; omega
theorem InRange_eq (a b c : Int) : impl_InRange.f a b c = some (decide (b ≤ a ∧ a ≤ c)) := by
  unfold impl_InRange.f
  by_cases h : b ≤ a
  · rw [if_pos h]; congr 1; by_cases h2 : a ≤ c <;> simp [h2] <;> omega
  · rw [if_neg h]; congr 1; simp; omega

theorem rdL_nat (l : List (List Int)) (i : Nat) (h : i < l.length) : rd_L1 l (i : Int) = l[i] := by
  unfold rd_L1
  rw [Int.toNat_natCast, List.getD_eq_getElem?_getD, List.getElem?_eq_getElem h]; rfl
theorem drop_consL (l : List (List Int)) (i : Nat) (h : i < l.length) : l.drop i = l[i] :: l.drop (i + 1) := List.drop_eq_getElem_cons h

def sumLen : List (List Int) → Nat
  | [] => 0
  | r :: l => r.length + sumLen l
theorem len_le_sum (l : List (List Int)) : ∀ r ∈ l, r.length ≤ sumLen l := by
  induction l with
  | nil => intro r h; cases h
  | cons a l ih =>
    intro r h
    simp only [sumLen]
    rcases List.mem_cons.1 h with rfl | h
    · omega
    · have := ih r h; omega
theorem sz_eq (r : List Int) (a : Int) (hr : r.length ≤ maxLen) (h0 : 0 ≤ a) (h1 : a ≤ 1048576) : laws_szIntS.f r a = some (if a - r.length < 0 then -1 else a - r.length) := by
  unfold laws_szIntS.f
  unfold maxLen at hr
  rw [wrap_id (by omega) (by omega)]
  split <;> rfl
theorem szSS_l0 (l : List (List Int)) (hm : ∀ r ∈ l, r.length ≤ maxLen) (hl : l.length ≤ 1048576) (d : Nat) : ∀ (i : Nat) (a : Int), l.length - i = d → 0 ≤ a → a ≤ 1048576 → ∃ r, Ev (fun k => laws_szIntSS.l0 k l a (i : Int)) r ∧ (0 ≤ r → r + sumLen (l.drop i) = a) := by
  induction d with
  | zero =>
    intro i a hd h0 h1
    refine ⟨a, Ev.step (f := fun _ => some a) (fun k => ?_) (Ev.now a), fun _ => by rw [List.drop_eq_nil_of_le (by omega)]; simp [sumLen]⟩
    simp only [laws_szIntSS.l0]
    rw [if_neg (by omega)]
  | succ d ih =>
    intro i a hd h0 h1
    have h : i < l.length := by omega
    have hs := sz_eq l[i] a (hm _ (List.getElem_mem h)) h0 h1
    by_cases c : a - l[i].length < 0
    · rw [if_pos c] at hs
      refine ⟨-1, Ev.step (f := fun _ => some (-1)) (fun k => ?_) (Ev.now (-1)), fun h => by omega⟩
      simp only [laws_szIntSS.l0]
      rw [if_pos (by omega), if_pos (by omega), rdL_nat l i h, hs]
      rfl
    · rw [if_neg c] at hs
      obtain ⟨r, hr, hr'⟩ := ih (i + 1) (a - l[i].length) (by omega) (by omega) (by omega)
      refine ⟨r, Ev.step (f := fun k => laws_szIntSS.l0 k l (a - l[i].length) ((i + 1 : Nat) : Int)) (fun k => ?_) hr, fun h0 => ?_⟩
      · simp only [laws_szIntSS.l0]
        rw [if_pos (by omega), if_pos (by omega), rdL_nat l i h, hs]
        simp only [Option.bind_some]
        rw [if_neg (by omega), wrap_id (by omega) (by omega)]
        rfl
      · have := hr' h0
        rw [drop_consL l i h]
        simp only [sumLen]
        omega
theorem szSS_ev (l : List (List Int)) (hlm : l.length ≤ maxLen) (hm : ∀ r ∈ l, r.length ≤ maxLen) : ∃ r, Ev (fun k => laws_szIntSS.f k l 1048576) r ∧ (0 ≤ r → l.length + sumLen l ≤ 1048576) := by
  unfold laws_szIntSS.f
  have hw : wrap64 (1048576 - (l.length : Int)) = 1048576 - (l.length : Int) := by
    unfold maxLen at hlm
    exact wrap_id (by omega) (by omega)
  by_cases c : 1048576 - (l.length : Int) < 0
  · refine ⟨-1, ?_, fun h => by omega⟩
    simp only [hw, if_pos c]
    exact Ev.now _
  · obtain ⟨r, hr, hr'⟩ := szSS_l0 l hm (by omega) l.length 0 (1048576 - (l.length : Int)) (by omega) (by omega) (by omega)
    refine ⟨r, ?_, fun h => by have := hr' h; simp at this; omega⟩
    simp only [hw, if_neg c]
    exact hr

theorem set_takeL (l x : List (List Int)) (i : Nat) (h : i < l.length) (hx : x.length = l.length) (ht : x.take i = l.take i) : (x.set i l[i]).take (i + 1) = l.take (i + 1) := by
  apply List.ext_getElem?
  intro j
  simp only [List.getElem?_take, List.getElem?_set]
  have hj : (x.take i)[j]? = (l.take i)[j]? := by rw [ht]
  simp only [List.getElem?_take] at hj
  by_cases h1 : j < i + 1
  · rw [if_pos h1, if_pos h1]
    by_cases h2 : i = j
    · subst h2; rw [if_pos rfl, if_pos (by omega), List.getElem?_eq_getElem h]
    · rw [if_neg h2]; rw [if_pos (by omega), if_pos (by omega)] at hj; exact hj
  · rw [if_neg h1, if_neg h1]
theorem toIntSS_l0 (l : List (List Int)) (hl : l.length ≤ 1048576) (hm : ∀ r ∈ l, r.length ≤ 1048576) (d : Nat) : ∀ (i : Nat) (x : List (List Int)), l.length - i = d → i ≤ l.length → x.length = l.length → x.take i = l.take i → Ev (fun k => laws_toIntSS.l0 k l x (i : Int)) l := by
  induction d with
  | zero =>
    intro i x hd hi hx ht
    have e : x = l := by rwa [List.take_of_length_le (by omega), List.take_of_length_le (by omega)] at ht
    subst e
    refine Ev.step (f := fun _ => some x) (fun k => ?_) (Ev.now x)
    simp only [laws_toIntSS.l0]
    rw [if_neg (by omega)]
  | succ d ih =>
    intro i x hd hi hx ht
    have h : i < l.length := by omega
    refine Ev.step (f := fun k => (laws_toIntS.f k l[i]).bind fun t => if (i : Int) < (x.length : Int) then laws_toIntSS.l0 k l (x.set i t) ((i + 1 : Nat) : Int) else none) (fun k => ?_) (Ev.bind (toIntS_ev l[i] (hm _ (List.getElem_mem h))) ?_)
    · simp only [laws_toIntSS.l0]
      rw [if_pos (by omega), if_pos (by omega), rdL_nat l i h, wrap_id (by omega) (by omega), Int.toNat_natCast]
      rfl
    · simp only [if_pos (show (i : Int) < (x.length : Int) by omega)]
      exact ih (i + 1) _ (by omega) (by omega) (by simpa using hx) (set_takeL l x i h hx ht)
theorem toIntSS_ev (l : List (List Int)) (hl : l.length ≤ 1048576) (hm : ∀ r ∈ l, r.length ≤ 1048576) : Ev (fun k => laws_toIntSS.f k l) l := by
  refine Ev.congr (f := fun k => laws_toIntSS.l0 k l (List.replicate l.length []) ((0 : Nat) : Int)) (fun k => ?_) (toIntSS_l0 l hl hm l.length 0 _ (by omega) (by omega) (by simp) (by simp))
  unfold laws_toIntSS.f
  rw [if_pos (by omega), Int.toNat_natCast, if_pos (by omega)]
  rfl

theorem eqIntSS_l0 (l : List (List Int)) (hl : l.length ≤ 16777216) (hm : ∀ r ∈ l, r.length ≤ 16777216) (d : Nat) : ∀ (i : Nat), l.length - i = d → Ev (fun k => laws_eqIntSS.l0 k l l (i : Int)) true := by
  induction d with
  | zero =>
    intro i hd
    refine Ev.step (f := fun _ => some true) (fun k => ?_) (Ev.now true)
    simp only [laws_eqIntSS.l0]
    rw [if_neg (by omega)]
  | succ d ih =>
    intro i hd
    have h : i < l.length := by omega
    refine Ev.step (f := fun k => (laws_eqIntS.f k l[i] l[i]).bind fun t => if t = true then laws_eqIntSS.l0 k l l ((i + 1 : Nat) : Int) else some false) (fun k => ?_) (Ev.bind (eqIntS_self l[i] (hm _ (List.getElem_mem h))) ?_)
    · simp only [laws_eqIntSS.l0]
      rw [if_pos (by omega), if_pos (by omega), if_pos (by omega), rdL_nat l i h, wrap_id (by omega) (by omega)]
      rfl
    · simp only [if_true]
      exact ih (i + 1) (by omega)
theorem eqIntSS_self (l : List (List Int)) (hl : l.length ≤ 16777216) (hm : ∀ r ∈ l, r.length ≤ 16777216) : Ev (fun k => laws_eqIntSS.f k l l) true := by
  refine Ev.congr (f := fun k => laws_eqIntSS.l0 k l l ((0 : Nat) : Int)) (fun k => ?_) (eqIntSS_l0 l hl hm l.length 0 (by omega))
  unfold laws_eqIntSS.f
  rw [if_pos rfl]
  rfl

def rowOk (c : Int) (r : List Int) : Bool := decide ((r.length : Int) = c) && r.all fun x => decide (-2 ≤ x ∧ x ≤ 2)
def isMat (l : List (List Int)) (c : Int) : Bool := decide (1 ≤ c ∧ c ≤ 6) && decide (l.length ≤ 12) && l.all (rowOk c)

theorem allIn_l0 (l : List Int) (hl : l.length ≤ 16777216) (a b : Int) (d : Nat) : ∀ (i : Nat), l.length - i = d → Ev (fun k => impl_allIn.l0 k a b l (l.length : Int) (i : Int)) ((l.drop i).all fun x => decide (a ≤ x ∧ x ≤ b)) := by
  induction d with
  | zero =>
    intro i hd
    rw [List.drop_eq_nil_of_le (by omega)]
    refine Ev.step (f := fun _ => some true) (fun k => ?_) (Ev.now true)
    simp only [impl_allIn.l0]
    rw [if_neg (by omega)]
  | succ d ih =>
    intro i hd
    have h : i < l.length := by omega
    rw [drop_eq_cons l i h, List.all_cons]
    by_cases c : a ≤ l[i] ∧ l[i] ≤ b
    · rw [decide_eq_true c, Bool.true_and]
      refine Ev.step (f := fun k => impl_allIn.l0 k a b l (l.length : Int) ((i + 1 : Nat) : Int)) (fun k => ?_) (ih (i + 1) (by omega))
      simp only [impl_allIn.l0]
      rw [if_pos (by omega), if_pos (by omega), if_pos (by omega), rd_nat l i h, InRange_eq, decide_eq_true c]
      simp only [Option.bind_some, if_true]
      rw [wrap_id (by omega) (by omega)]
      rfl
    · rw [decide_eq_false c, Bool.false_and]
      refine Ev.step (f := fun _ => some false) (fun k => ?_) (Ev.now false)
      simp only [impl_allIn.l0]
      rw [if_pos (by omega), if_pos (by omega), if_pos (by omega), rd_nat l i h, InRange_eq, decide_eq_false c]
      simp only [Option.bind_some, Bool.false_eq_true, if_false]
theorem allIn_ev (l : List Int) (hl : l.length ≤ 16777216) (a b : Int) : Ev (fun k => impl_allIn.f k l a b) (l.all fun x => decide (a ≤ x ∧ x ≤ b)) := by
  have := allIn_l0 l hl a b l.length 0 (by omega)
  exact this

theorem implMat_l0 (l : List (List Int)) (hl : l.length ≤ 16777216) (hm : ∀ r ∈ l, r.length ≤ 16777216) (c : Int) (d : Nat) : ∀ (i : Nat), l.length - i = d → Ev (fun k => impl_IsMatrix.l0 k c l (l.length : Int) (i : Int)) ((l.drop i).all (rowOk c)) := by
  induction d with
  | zero =>
    intro i hd
    rw [List.drop_eq_nil_of_le (by omega)]
    refine Ev.step (f := fun _ => some true) (fun k => ?_) (Ev.now true)
    simp only [impl_IsMatrix.l0]
    rw [if_neg (by omega)]
  | succ d ih =>
    intro i hd
    have h : i < l.length := by omega
    rw [drop_consL l i h, List.all_cons]
    by_cases c1 : (l[i].length : Int) = c
    · have e : rowOk c l[i] = l[i].all fun x => decide (-2 ≤ x ∧ x ≤ 2) := by unfold rowOk; rw [decide_eq_true c1, Bool.true_and]
      rw [e]
      refine Ev.step (f := fun k => (impl_allIn.f k l[i] (-2) 2).bind fun t => if t = true then impl_IsMatrix.l0 k c l (l.length : Int) ((i + 1 : Nat) : Int) else some false) (fun k => ?_) (Ev.bind (allIn_ev l[i] (hm _ (List.getElem_mem h)) (-2) 2) ?_)
      · simp only [impl_IsMatrix.l0]
        rw [if_pos (by omega), if_pos (by omega), if_pos (by omega), rdL_nat l i h, if_pos c1, wrap_id (by omega) (by omega)]
        rfl
      · cases l[i].all fun x => decide (-2 ≤ x ∧ x ≤ 2) with
        | true => simp only [if_true, Bool.true_and]; exact ih (i + 1) (by omega)
        | false => simp only [Bool.false_eq_true, if_false, Bool.false_and]; exact Ev.now _
    · have e : rowOk c l[i] = false := by unfold rowOk; rw [decide_eq_false c1, Bool.false_and]
      rw [e, Bool.false_and]
      refine Ev.step (f := fun _ => some false) (fun k => ?_) (Ev.now false)
      simp only [impl_IsMatrix.l0]
      rw [if_pos (by omega), if_pos (by omega), if_pos (by omega), rdL_nat l i h, if_neg c1]
theorem implMat_ev (l : List (List Int)) (hl : l.length ≤ 16777216) (hm : ∀ r ∈ l, r.length ≤ 16777216) (c : Int) : Ev (fun k => impl_IsMatrix.f k l c) (isMat l c) := by
  unfold impl_IsMatrix.f isMat
  simp only [InRange_eq, Option.bind_some]
  by_cases c1 : 1 ≤ c ∧ c ≤ 6
  · simp only [decide_eq_true c1, if_true, Bool.true_and]
    by_cases c2 : l.length ≤ 12
    · rw [decide_eq_true c2, Bool.true_and, decide_eq_false (show ¬ ((l.length : Int) > 12) by omega)]
      refine Ev.step (fun k => impl_IsMatrix.j0.eq_2 _ _ _ _) ?_
      simp only [Bool.false_eq_true, if_false]
      exact implMat_l0 l hl hm c l.length 0 (by omega)
    · rw [decide_eq_false c2, Bool.false_and, decide_eq_true (show (l.length : Int) > 12 by omega)]
      refine Ev.step (fun k => impl_IsMatrix.j0.eq_2 _ _ _ _) ?_
      simp only [if_true]
      exact Ev.now _
  · simp only [decide_eq_false c1, Bool.false_eq_true, if_false, Bool.false_and]
    refine Ev.step (fun k => impl_IsMatrix.j0.eq_2 _ _ _ _) ?_
    simp only [if_true]
    exact Ev.now _

theorem specMat_l1 (l : List (List Int)) (hl : l.length ≤ 16777216) (c : Int) (i : Nat) (h : i < l.length) (hc : (l[i].length : Int) = c) (hr : l[i].length ≤ 16777216) (R : Bool) (hR : Ev (fun k => spec_IsMatrix.l0 k l c ((i + 1 : Nat) : Int)) R) (d : Nat) : ∀ j : Nat, l[i].length - j = d → Ev (fun k => spec_IsMatrix.l1 k l c (i : Int) (j : Int)) (((l[i].drop j).all fun x => decide (-2 ≤ x ∧ x ≤ 2)) && R) := by
  induction d with
  | zero =>
    intro j hd
    rw [List.drop_eq_nil_of_le (by omega)]
    refine Ev.step (f := fun k => spec_IsMatrix.l0 k l c ((i + 1 : Nat) : Int)) (fun k => ?_) (by simpa using hR)
    simp only [spec_IsMatrix.l1]
    rw [if_neg (by omega), wrap_id (by omega) (by omega)]
    rfl
  | succ d ih =>
    intro j hd
    have hj : j < l[i].length := by omega
    rw [drop_eq_cons l[i] j hj, List.all_cons]
    by_cases c1 : -2 ≤ l[i][j] ∧ l[i][j] ≤ 2
    · rw [decide_eq_true c1, Bool.true_and]
      refine Ev.step (f := fun k => spec_IsMatrix.l1 k l c (i : Int) ((j + 1 : Nat) : Int)) (fun k => ?_) (ih (j + 1) (by omega))
      simp only [spec_IsMatrix.l1]
      rw [if_pos (by omega), if_pos (by omega), if_pos (by omega), if_pos (by omega), rdL_nat l i h, if_pos (by omega), rd_nat _ j hj, l1In_eq, decide_eq_true c1]
      simp only [Option.bind_some, if_true]
      rw [wrap_id (by omega) (by omega)]
      rfl
    · rw [decide_eq_false c1, Bool.false_and, Bool.false_and]
      refine Ev.step (f := fun _ => some false) (fun k => ?_) (Ev.now false)
      simp only [spec_IsMatrix.l1]
      rw [if_pos (by omega), if_pos (by omega), if_pos (by omega), if_pos (by omega), rdL_nat l i h, if_pos (by omega), rd_nat _ j hj, l1In_eq, decide_eq_false c1]
      simp only [Option.bind_some, Bool.false_eq_true, if_false]
theorem specMat_l0 (l : List (List Int)) (hl : l.length ≤ 16777216) (hm : ∀ r ∈ l, r.length ≤ 16777216) (c : Int) (d : Nat) : ∀ (i : Nat), l.length - i = d → Ev (fun k => spec_IsMatrix.l0 k l c (i : Int)) ((l.drop i).all (rowOk c)) := by
  induction d with
  | zero =>
    intro i hd
    rw [List.drop_eq_nil_of_le (by omega)]
    refine Ev.step (f := fun _ => some true) (fun k => ?_) (Ev.now true)
    simp only [spec_IsMatrix.l0]
    rw [if_neg (by omega)]
  | succ d ih =>
    intro i hd
    have h : i < l.length := by omega
    rw [drop_consL l i h, List.all_cons]
    by_cases c1 : (l[i].length : Int) = c
    · have e : rowOk c l[i] = l[i].all fun x => decide (-2 ≤ x ∧ x ≤ 2) := by unfold rowOk; rw [decide_eq_true c1, Bool.true_and]
      rw [e]
      refine Ev.step (f := fun k => spec_IsMatrix.l1 k l c (i : Int) ((0 : Nat) : Int)) (fun k => ?_) (specMat_l1 l hl c i h c1 (hm _ (List.getElem_mem h)) _ (ih (i + 1) (by omega)) l[i].length 0 (by omega))
      simp only [spec_IsMatrix.l0]
      rw [if_pos (by omega), if_pos (by omega), rdL_nat l i h, if_pos c1]
      rfl
    · have e : rowOk c l[i] = false := by unfold rowOk; rw [decide_eq_false c1, Bool.false_and]
      rw [e, Bool.false_and]
      refine Ev.step (f := fun _ => some false) (fun k => ?_) (Ev.now false)
      simp only [spec_IsMatrix.l0]
      rw [if_pos (by omega), if_pos (by omega), rdL_nat l i h, if_neg c1]
theorem specMat_ev (l : List (List Int)) (hl : l.length ≤ 16777216) (hm : ∀ r ∈ l, r.length ≤ 16777216) (c : Int) : Ev (fun k => spec_IsMatrix.f k l c) (isMat l c) := by
  unfold spec_IsMatrix.f isMat
  simp only [l1In_eq, Option.bind_some]
  by_cases c1 : 1 ≤ c ∧ c ≤ 6
  · simp only [decide_eq_true c1, if_true, Bool.true_and]
    by_cases c2 : l.length ≤ 12
    · rw [decide_eq_true c2, Bool.true_and, decide_eq_false (show ¬ ((l.length : Int) > 12) by omega)]
      refine Ev.step (fun k => spec_IsMatrix.j0.eq_2 _ _ _ _) ?_
      simp only [Bool.false_eq_true, if_false]
      exact specMat_l0 l hl hm c l.length 0 (by omega)
    · rw [decide_eq_false c2, Bool.false_and, decide_eq_true (show (l.length : Int) > 12 by omega)]
      refine Ev.step (fun k => spec_IsMatrix.j0.eq_2 _ _ _ _) ?_
      simp only [if_true]
      exact Ev.now _
  · simp only [decide_eq_false c1, Bool.false_eq_true, if_false, Bool.false_and]
    refine Ev.step (fun k => spec_IsMatrix.j0.eq_2 _ _ _ _) ?_
    simp only [if_true]
    exact Ev.now _

theorem impl_gcd_l0 (b : Nat) : ∀ a : Nat, Ev (fun k => impl_gcd.l0 k (a : Int) (b : Int)) ((Nat.gcd a b : Nat) : Int) := by
  induction b using Nat.strongRecOn with
  | ind b ih =>
    intro a
    by_cases h : b = 0
    · subst h
      refine Ev.step (f := fun _ => some (a : Int)) (fun k => ?_) (by simpa using Ev.now (a : Int))
      simp only [impl_gcd.l0]
      rw [if_pos (by omega)]
    · have hg : Nat.gcd a b = Nat.gcd b (a % b) := by rw [Nat.gcd_comm a b, Nat.gcd_rec b a, Nat.gcd_comm]
      rw [hg]
      refine Ev.step (f := fun k => impl_gcd.l0 k (b : Int) ((a % b : Nat) : Int)) (fun k => ?_) (ih (a % b) (Nat.mod_lt _ (by omega)) b)
      simp only [impl_gcd.l0]
      rw [if_neg (by omega), Int.tmod_eq_emod_of_nonneg (by omega)]
      rfl

theorem spec_l4Gcd_l0 (b : Nat) : ∀ a : Nat, Ev (fun k => spec_l4Gcd.l0 k (a : Int) (b : Int)) ((Nat.gcd a b : Nat) : Int) := by
  induction b using Nat.strongRecOn with
  | ind b ih =>
    intro a
    by_cases h : b = 0
    · subst h
      refine Ev.step (f := fun _ => some (a : Int)) (fun k => ?_) (by simpa using Ev.now (a : Int))
      simp only [spec_l4Gcd.l0]
      rw [if_neg (by omega)]
    · have hg : Nat.gcd a b = Nat.gcd b (a % b) := by rw [Nat.gcd_comm a b, Nat.gcd_rec b a, Nat.gcd_comm]
      rw [hg]
      refine Ev.step (f := fun k => spec_l4Gcd.l0 k (b : Int) ((a % b : Nat) : Int)) (fun k => ?_) (ih (a % b) (Nat.mod_lt _ (by omega)) b)
      simp only [spec_l4Gcd.l0]
      rw [if_pos (by omega), if_neg (by omega), Int.tmod_eq_emod_of_nonneg (by omega)]
      rfl

theorem gcdI_ev (a b : Int) (ha : -9223372036854775808 < a) (ha' : a < 9223372036854775808) (hb : -9223372036854775808 < b) (hb' : b < 9223372036854775808) : Ev (fun k => impl_gcd.f k a b) ((Int.gcd a b : Nat) : Int) := by
  have h0 : Ev (fun k => impl_gcd.j0 k ((a.natAbs : Nat) : Int) b) ((Int.gcd a b : Nat) : Int) := by
    refine Ev.step (f := fun k => impl_gcd.j1 k ((a.natAbs : Nat) : Int) ((b.natAbs : Nat) : Int)) (fun k => ?_) (Ev.step (fun k => impl_gcd.j1.eq_2 _ _ _) (impl_gcd_l0 b.natAbs a.natAbs))
    simp only [impl_gcd.j0]
    by_cases h : b < 0
    · rw [if_pos h, wrap_id (by omega) (by omega), show -b = ((b.natAbs : Nat) : Int) by omega]
    · rw [if_neg h, show (b.natAbs : Int) = b by omega]
  unfold impl_gcd.f
  by_cases h : a < 0
  · simp only [if_pos h]
    rw [wrap_id (by omega) (by omega), show -a = ((a.natAbs : Nat) : Int) by omega]
    exact h0
  · simp only [if_neg h]
    rw [show (a.natAbs : Int) = a by omega] at h0
    exact h0
theorem absS (a : Int) (ha : -9223372036854775808 < a) (ha' : a < 9223372036854775808) : spec_Max.f a (wrap64 (-a)) = some ((a.natAbs : Nat) : Int) := by
  unfold spec_Max.f
  rw [wrap_id (by omega) (by omega)]
  by_cases h : -a > a
  · rw [if_pos h]; congr 1; omega
  · rw [if_neg h]; congr 1; omega
theorem gcdS_ev (a b : Int) (ha : -9223372036854775808 < a) (ha' : a < 9223372036854775808) (hb : -9223372036854775808 < b) (hb' : b < 9223372036854775808) : Ev (fun k => spec_l4Gcd.f k a b) ((Int.gcd a b : Nat) : Int) := by
  unfold spec_l4Gcd.f
  simp only [absS a ha ha', absS b hb hb', Option.bind_some]
  exact spec_l4Gcd_l0 b.natAbs a.natAbs
theorem ev_to {α : Type} {f : Nat → Option α} {a b : α} (h : Ev f a) (e : a = b) : Ev f b := e ▸ h
theorem at0_rd (l : List Int) (i : Nat) : rd l (i : Int) = at0 l i := by
  unfold rd at0
  rw [Int.toNat_natCast]
/-! ### the first number that is not 0 -/
theorem idx96_l0 (l : List Int) (hl : l.length ≤ 16777216) (d : Nat) : ∀ i : Nat, l.length - i = d → i ≤ ld l → Ev (fun k => slices_IndexFunc_int_int_96.l0 k l (l.length : Int) (i : Int)) (if ld l < l.length then (ld l : Int) else -1) := by
  induction d with
  | zero =>
    intro i hd hi
    have := ld_le l
    rw [if_neg (by omega)]
    refine Ev.step (f := fun _ => some (-1)) (fun k => ?_) (Ev.now _)
    simp only [slices_IndexFunc_int_int_96.l0]
    rw [if_neg (by omega)]
  | succ d ih =>
    intro i hd hi
    have h : i < l.length := by omega
    by_cases e : at0 l i = 0
    · have hne : i ≠ ld l := fun e2 => by
        subst e2
        exact ld_ne l h e
      refine Ev.step (f := fun k => slices_IndexFunc_int_int_96.l0 k l (l.length : Int) ((i + 1 : Nat) : Int)) (fun k => ?_) (ih (i + 1) (by omega) (by omega))
      simp only [slices_IndexFunc_int_int_96.l0]
      rw [if_pos (by omega), if_pos (by omega), if_pos (by omega), at0_rd, if_pos e, wrap_id (by omega) (by omega)]
      rfl
    · have he : ld l = i := ld_eq l i (fun j hj => ld_low l j (by omega)) e
      rw [he, if_pos h]
      refine Ev.step (f := fun _ => some (i : Int)) (fun k => ?_) (Ev.now _)
      simp only [slices_IndexFunc_int_int_96.l0]
      rw [if_pos (by omega), if_pos (by omega), if_pos (by omega), at0_rd, if_neg e]
theorem leadI_ev (l : List Int) (hl : l.length ≤ 16777216) : Ev (fun k => impl_lead.f k l) (if ld l < l.length then (ld l : Int) else -1) := by
  unfold impl_lead.f
  refine Ev.bind (idx96_l0 l hl l.length 0 (by omega) (by omega)) (Ev.now _)
theorem leadS_l0 (l : List Int) (hl : l.length ≤ 16777216) (d : Nat) : ∀ i : Nat, l.length - i = d → i ≤ ld l → Ev (fun k => spec_l5Lead.l0 k l (i : Int)) (ld l : Int) := by
  induction d with
  | zero =>
    intro i hd hi
    have := ld_le l
    rw [show ld l = l.length by omega]
    refine Ev.step (f := fun _ => some (l.length : Int)) (fun k => ?_) (Ev.now _)
    simp only [spec_l5Lead.l0]
    rw [if_neg (by omega)]
  | succ d ih =>
    intro i hd hi
    have h : i < l.length := by omega
    by_cases e : at0 l i = 0
    · have hne : i ≠ ld l := fun e2 => by
        subst e2
        exact ld_ne l h e
      refine Ev.step (f := fun k => spec_l5Lead.l0 k l ((i + 1 : Nat) : Int)) (fun k => ?_) (ih (i + 1) (by omega) (by omega))
      simp only [spec_l5Lead.l0]
      rw [if_pos (by omega), if_pos (by omega), at0_rd, if_pos e, wrap_id (by omega) (by omega)]
      rfl
    · have he : ld l = i := ld_eq l i (fun j hj => ld_low l j (by omega)) e
      rw [he]
      refine Ev.step (f := fun _ => some (i : Int)) (fun k => ?_) (Ev.now _)
      simp only [spec_l5Lead.l0]
      rw [if_pos (by omega), if_pos (by omega), at0_rd, if_neg e]
theorem leadS_ev (l : List Int) (hl : l.length ≤ 16777216) : Ev (fun k => spec_l5Lead.f k l) (ld l : Int) := leadS_l0 l hl l.length 0 (by omega) (by omega)
/-! ### tidy -/
theorem gcdl_lt (B : Nat) (hB : 0 < B) : ∀ l : List Int, (∀ x ∈ l, x.natAbs < B) → gcdl l < B
  | [], _ => by simpa [gcdl] using hB
  | x :: l, h => by
    rw [gcdl_cons]
    by_cases hx : x.natAbs = 0
    · rw [hx, Nat.gcd_zero_left]
      exact gcdl_lt B hB l fun y hy => h y (by simp [hy])
    · have := Nat.le_of_dvd (Nat.pos_of_ne_zero hx) (Nat.gcd_dvd_left x.natAbs (gcdl l))
      have := h x (by simp)
      omega
theorem gcdl_take (l : List Int) (i : Nat) (h : i < l.length) : gcdl (l.take (i + 1)) = Nat.gcd (gcdl (l.take i)) l[i].natAbs := by
  rw [List.take_succ_eq_append_getElem h]
  show List.foldl _ _ _ = _
  rw [List.foldl_append]
  rfl
theorem gcd_int (g : Nat) (x : Int) : Int.gcd (g : Int) x = Nat.gcd g x.natAbs := rfl
theorem mem_small {l : List Int} {B : Nat} (h : ∀ j, (at0 l j).natAbs < B) : ∀ x ∈ l, x.natAbs < B := fun x hx => by
  obtain ⟨i, hi, rfl⟩ := List.getElem_of_mem hx
  have := h i
  rwa [at0_lt hi] at this
/-- The first i of b, the rest of a. -/
def mixl {α : Type} (a b : List α) (i : Nat) : List α := b.take i ++ a.drop i
theorem mixl_zero {α : Type} (a b : List α) : mixl a b 0 = a := by simp [mixl]
theorem mixl_all {α : Type} (a b : List α) (i : Nat) (h : a.length = b.length) (hi : a.length ≤ i) : mixl a b i = b := by
  unfold mixl
  rw [List.drop_eq_nil_of_le hi, List.append_nil, List.take_of_length_le (by omega)]
theorem mixl_len {α : Type} (a b : List α) (i : Nat) (h : a.length = b.length) (hi : i ≤ a.length) : (mixl a b i).length = a.length := by
  simp only [mixl, List.length_append, List.length_take, List.length_drop]
  omega
theorem mixl_get {α : Type} (a b : List α) (i j : Nat) (h : a.length = b.length) : (mixl a b i)[j]? = if j < i then b[j]? else a[j]? := by
  unfold mixl
  by_cases hj : j < i
  · rw [if_pos hj]
    by_cases h2 : j < b.length
    · rw [List.getElem?_append_left (by rw [List.length_take]; omega), List.getElem?_take, if_pos hj]
    · rw [List.getElem?_append_right (by rw [List.length_take]; omega), List.getElem?_eq_none (l := b) (by omega), List.getElem?_eq_none]
      rw [List.length_drop, List.length_take]
      omega
  · rw [if_neg hj]
    by_cases h2 : j < b.length
    · rw [List.getElem?_append_right (by rw [List.length_take]; omega), List.length_take, List.getElem?_drop]
      congr 1
      omega
    · rw [List.getElem?_append_right (by rw [List.length_take]; omega), List.length_take, List.getElem?_drop, List.getElem?_eq_none (by omega), List.getElem?_eq_none (by omega)]
theorem mixl_set {α : Type} (a b : List α) (i : Nat) (x : α) (h : a.length = b.length) (hx : b[i]? = some x) : (mixl a b i).set i x = mixl a b (i + 1) := by
  have hi := (List.getElem?_eq_some_iff.1 hx).1
  apply List.ext_getElem?
  intro j
  rw [List.getElem?_set, mixl_len a b i h (by omega), mixl_get a b (i + 1) j h]
  by_cases e : i = j
  · subst e
    rw [if_pos rfl, if_pos (by omega), if_pos (by omega), hx]
  · rw [if_neg e, mixl_get a b i j h]
    by_cases hj : j < i
    · rw [if_pos hj, if_pos (by omega)]
    · rw [if_neg hj, if_neg (by omega)]
theorem mixl_same {α : Type} (a b : List α) (i : Nat) (h : a.length = b.length) (hx : b[i]? = a[i]?) : mixl a b i = mixl a b (i + 1) := by
  apply List.ext_getElem?
  intro j
  rw [mixl_get a b i j h, mixl_get a b (i + 1) j h]
  by_cases hj : j < i
  · rw [if_pos hj, if_pos (by omega)]
  · by_cases e : j = i
    · subst e
      rw [if_neg hj, if_pos (by omega), hx]
    · rw [if_neg hj, if_neg (by omega)]
/-- The row with its first i numbers divided. -/
def part (l : List Int) (i : Nat) : List Int := mixl l (tid l) i
theorem part_zero (l : List Int) : part l 0 = l := mixl_zero _ _
theorem part_all (l : List Int) : part l l.length = tid l := mixl_all _ _ _ (tid_len l).symm (Nat.le_refl _)
theorem part_len (l : List Int) (i : Nat) (h : i ≤ l.length) : (part l i).length = l.length := mixl_len _ _ _ (tid_len l).symm h
theorem mixl_at (a b : List Int) (i : Nat) (h : a.length = b.length) : at0 (mixl a b i) i = at0 a i := by
  unfold at0
  rw [List.getD_eq_getElem?_getD, List.getD_eq_getElem?_getD, mixl_get a b i i h, if_neg (by omega)]
theorem part_at (l : List Int) (i : Nat) (h : i < l.length) : at0 (part l i) i = at0 l i := mixl_at _ _ _ (tid_len l).symm
theorem part_succ (l : List Int) (i : Nat) (h : i < l.length) (x : Int) (hx : x = at0 (tid l) i) : (part l i).set i x = part l (i + 1) := by
  refine mixl_set _ _ _ _ (tid_len l).symm ?_
  have ht := tid_len l
  rw [hx, at0_lt (by omega), List.getElem?_eq_getElem (by omega)]
theorem div_step (l : List Int) (hg : gcdl l ≠ 0) (hs : ∀ j, (at0 l j).natAbs < 9223372036854775808) (i : Nat) : wrap64 (Int.tdiv (at0 l i) (sg l)) = at0 (tid l) i := by
  have h1 := tid_mul l hg i
  have h2 : Int.tdiv (at0 l i) (sg l) = at0 (tid l) i := by
    rw [← h1]
    exact Int.mul_tdiv_cancel_left _ (sg_ne l hg)
  rw [h2]
  have h3 := hs i
  have h5 : (at0 (tid l) i).natAbs ≤ (at0 l i).natAbs := by
    rw [← h1, Int.natAbs_mul]
    exact Nat.le_mul_of_pos_left _ (Int.natAbs_pos.2 (sg_ne l hg))
  exact wrap_id (by omega) (by omega)
theorem tidyI_l1 (l : List Int) (hl : l.length ≤ 16777216) (hg : gcdl l ≠ 0) (hs : ∀ j, (at0 l j).natAbs < 9223372036854775808) (d : Nat) : ∀ i : Nat, l.length - i = d → i ≤ l.length → Ev (fun k => impl_tidy.l1 k (part l i) (sg l) (l.length : Int) (i : Int)) (tid l) := by
  induction d with
  | zero =>
    intro i hd hi
    refine Ev.step (f := fun _ => some (part l i)) (fun k => ?_) (ev_to (Ev.now (part l i)) (by rw [show i = l.length by omega, part_all]))
    simp only [impl_tidy.l1]
    rw [if_neg (by omega)]
  | succ d ih =>
    intro i hd hi
    have h : i < l.length := by omega
    have hp := part_len l i (by omega)
    refine Ev.step (f := fun k => impl_tidy.l1 k (part l (i + 1)) (sg l) (l.length : Int) ((i + 1 : Nat) : Int)) (fun k => ?_) (ih (i + 1) (by omega) (by omega))
    simp only [impl_tidy.l1]
    rw [if_pos (by omega), if_pos (by omega), if_pos (by omega), if_neg (sg_ne l hg), at0_rd, part_at l i h, div_step l hg hs i, Int.toNat_natCast, part_succ l i h _ rfl, wrap_id (by omega) (by omega)]
    rfl
theorem tidyS_l1 (l : List Int) (hl : l.length ≤ 16777216) (hg : gcdl l ≠ 0) (hs : ∀ j, (at0 l j).natAbs < 9223372036854775808) (d : Nat) : ∀ i : Nat, l.length - i = d → i ≤ l.length → Ev (fun k => spec_l5Tidy.l1 k (sg l) (part l i) (i : Int)) (tid l) := by
  induction d with
  | zero =>
    intro i hd hi
    have hp := part_len l i (by omega)
    refine Ev.step (f := fun _ => some (part l i)) (fun k => ?_) (ev_to (Ev.now (part l i)) (by rw [show i = l.length by omega, part_all]))
    simp only [spec_l5Tidy.l1]
    rw [if_neg (by omega)]
  | succ d ih =>
    intro i hd hi
    have h : i < l.length := by omega
    have hp := part_len l i (by omega)
    refine Ev.step (f := fun k => spec_l5Tidy.l1 k (sg l) (part l (i + 1)) ((i + 1 : Nat) : Int)) (fun k => ?_) (ih (i + 1) (by omega) (by omega))
    simp only [spec_l5Tidy.l1]
    rw [if_pos (by omega), if_pos (by omega), if_neg (sg_ne l hg), at0_rd, part_at l i h, div_step l hg hs i, Int.toNat_natCast, part_succ l i h _ rfl, wrap_id (by omega) (by omega)]
    rfl
theorem sg_case (l : List Int) : sg l = if at0 l (ld l) < 0 then -(gcdl l : Int) else gcdl l := rfl
theorem tidyI_l0 (l : List Int) (hl : l.length ≤ 16777216) (hs : ∀ j, (at0 l j).natAbs < 9223372036854775808) (d : Nat) : ∀ i : Nat, l.length - i = d → i ≤ l.length → Ev (fun k => impl_tidy.l0 k l ((gcdl (l.take i) : Nat) : Int) l (l.length : Int) (i : Int)) (tid l) := by
  have hm := mem_small hs
  induction d with
  | zero =>
    intro i hd hi
    rw [List.take_of_length_le (by omega)]
    have hgl := gcdl_lt _ (by decide) l hm
    by_cases hg : gcdl l = 0
    · refine Ev.step (f := fun _ => some l) (fun k => ?_) (ev_to (Ev.now l) (by unfold tid; rw [if_pos hg]))
      simp only [impl_tidy.l0]
      rw [if_neg (by omega), if_pos (by omega)]
    · have hld := ld_lt l hg
      have hlead := leadI_ev l hl
      rw [if_pos hld] at hlead
      have hl1 := tidyI_l1 l hl hg hs l.length 0 (by omega) (by omega)
      rw [part_zero] at hl1
      have hj : Ev (fun k => impl_tidy.j1 k l (sg l)) (tid l) := Ev.step (fun k => impl_tidy.j1.eq_2 _ _ _) hl1
      refine Ev.step (f := fun k => (impl_lead.f k l).bind fun t => if 0 ≤ t then (if t < (l.length : Int) then (if rd l t < 0 then impl_tidy.j1 k l (wrap64 (-((gcdl l : Nat) : Int))) else impl_tidy.j1 k l ((gcdl l : Nat) : Int)) else none) else none) (fun k => ?_) ?_
      · simp only [impl_tidy.l0]
        rw [if_neg (by omega), if_neg (by omega)]
      · refine Ev.bind hlead ?_
        simp only [if_pos (show (0 : Int) ≤ (ld l : Int) by omega), if_pos (show (ld l : Int) < (l.length : Int) by omega), at0_rd]
        have hc := sg_case l
        by_cases hn : at0 l (ld l) < 0
        · simp only [if_pos hn] at hc ⊢
          rw [wrap_id (by omega) (by omega), ← hc]
          exact hj
        · simp only [if_neg hn] at hc ⊢
          rw [← hc]
          exact hj
  | succ d ih =>
    intro i hd hi
    have h : i < l.length := by omega
    have hgl := gcdl_lt 9223372036854775808 (by decide) (l.take i) fun x hx => hm x (List.mem_of_mem_take hx)
    have hsi := hs i
    have hgc := gcdI_ev ((gcdl (l.take i) : Nat) : Int) (at0 l i) (by omega) (by omega) (by omega) (by omega)
    rw [gcd_int, at0_lt h, ← gcdl_take l i h] at hgc
    refine Ev.step (f := fun k => (impl_gcd.f k ((gcdl (l.take i) : Nat) : Int) l[i]).bind fun t => impl_tidy.l0 k l t l (l.length : Int) ((i + 1 : Nat) : Int)) (fun k => ?_) (Ev.bind hgc (ih (i + 1) (by omega) (by omega)))
    simp only [impl_tidy.l0]
    rw [if_pos (by omega), if_pos (by omega), if_pos (by omega), at0_rd, at0_lt h, wrap_id (by omega) (by omega)]
    rfl
theorem tidyI_ev (l : List Int) (hl : l.length ≤ 16777216) (hs : ∀ j, (at0 l j).natAbs < 9223372036854775808) : Ev (fun k => impl_tidy.f k l) (tid l) := tidyI_l0 l hl hs l.length 0 (by omega) (by omega)
theorem tidyS_l0 (l : List Int) (hl : l.length ≤ 16777216) (hs : ∀ j, (at0 l j).natAbs < 9223372036854775808) (d : Nat) : ∀ i : Nat, l.length - i = d → i ≤ l.length → Ev (fun k => spec_l5Tidy.l0 k l ((gcdl (l.take i) : Nat) : Int) (i : Int)) (tid l) := by
  have hm := mem_small hs
  induction d with
  | zero =>
    intro i hd hi
    rw [List.take_of_length_le (by omega)]
    have hgl := gcdl_lt _ (by decide) l hm
    have hlead := leadS_ev l hl
    have hlle := ld_le l
    refine Ev.step (f := fun k => (spec_l5Lead.f k l).bind fun t => if t = (l.length : Int) then some l else if 0 ≤ t then (if t < (l.length : Int) then (if rd l t < 0 then spec_l5Tidy.j1 k (wrap64 (-((gcdl l : Nat) : Int))) l else spec_l5Tidy.j1 k ((gcdl l : Nat) : Int) l) else none) else none) (fun k => ?_) ?_
    · simp only [spec_l5Tidy.l0]
      rw [if_neg (by omega)]
      simp only [Option.bind_some, List.nil_append, List.length_nil, Nat.zero_add]
      rw [if_pos (by omega)]
    · refine Ev.bind hlead ?_
      by_cases hg : gcdl l = 0
      · have h0 := ld_zero l (gcdl_zero l hg)
        simp only [if_pos (show (ld l : Int) = (l.length : Int) by omega)]
        exact ev_to (Ev.now l) (by unfold tid; rw [if_pos hg])
      · have hld := ld_lt l hg
        have hl1 := tidyS_l1 l hl hg hs l.length 0 (by omega) (by omega)
        rw [part_zero] at hl1
        have hj : Ev (fun k => spec_l5Tidy.j1 k (sg l) l) (tid l) := Ev.step (fun k => spec_l5Tidy.j1.eq_2 _ _ _) hl1
        simp only [if_neg (show ¬ (ld l : Int) = (l.length : Int) by omega), if_pos (show (0 : Int) ≤ (ld l : Int) by omega), if_pos (show (ld l : Int) < (l.length : Int) by omega), at0_rd]
        have hc := sg_case l
        by_cases hn : at0 l (ld l) < 0
        · simp only [if_pos hn] at hc ⊢
          rw [wrap_id (by omega) (by omega), ← hc]
          exact hj
        · simp only [if_neg hn] at hc ⊢
          rw [← hc]
          exact hj
  | succ d ih =>
    intro i hd hi
    have h : i < l.length := by omega
    have hgl := gcdl_lt 9223372036854775808 (by decide) (l.take i) fun x hx => hm x (List.mem_of_mem_take hx)
    have hsi := hs i
    have hgc := gcdS_ev ((gcdl (l.take i) : Nat) : Int) (at0 l i) (by omega) (by omega) (by omega) (by omega)
    rw [gcd_int, at0_lt h, ← gcdl_take l i h] at hgc
    refine Ev.step (f := fun k => (spec_l4Gcd.f k ((gcdl (l.take i) : Nat) : Int) l[i]).bind fun t => spec_l5Tidy.l0 k l t ((i + 1 : Nat) : Int)) (fun k => ?_) (Ev.bind hgc (ih (i + 1) (by omega) (by omega)))
    simp only [spec_l5Tidy.l0]
    rw [if_pos (by omega), if_pos (by omega), at0_rd, at0_lt h, wrap_id (by omega) (by omega)]
    rfl
theorem tidyS_ev (l : List Int) (hl : l.length ≤ 16777216) (hs : ∀ j, (at0 l j).natAbs < 9223372036854775808) : Ev (fun k => spec_l5Tidy.f k l) (tid l) := tidyS_l0 l hl hs l.length 0 (by omega) (by omega)
/-! ### one row less another -/
theorem mapO_ev (f : Nat → List Int → Option (List Int)) (g : List Int → List Int) : ∀ l : List (List Int), (∀ x ∈ l, Ev (fun k => f k x) (g x)) → Ev (fun k => impl_reduceAny.mapO (f k) l) (l.map g)
  | [], _ => Ev.now []
  | x :: l, h => by
    refine Ev.congr (f := fun k => (f k x).bind fun y => (impl_reduceAny.mapO (f k) l).bind fun m => some (y :: m)) (fun k => rfl) ?_
    exact Ev.bind (h x (by simp)) (Ev.bind (mapO_ev f g l fun y hy => h y (by simp [hy])) (Ev.now _))
def Small (l : List Int) : Prop := ∀ j, (at0 l j).natAbs ≤ 322560000
theorem mul_small {a b : Int} (ha : a.natAbs ≤ 322560000) (hb : b.natAbs ≤ 322560000) : (a * b).natAbs ≤ 104044953600000000 := by
  rw [Int.natAbs_mul]
  exact Nat.mul_le_mul ha hb
theorem comb_step (x p : List Int) (c i : Nat) (h : x.length = p.length) (hx : Small x) (hp : Small p) : wrap64 (wrap64 (at0 x i * at0 p c) - wrap64 (at0 p i * at0 x c)) = at0 (comb x p c) i := by
  have h1 := mul_small (hx i) (hp c)
  have h2 := mul_small (hp i) (hx c)
  rw [wrap_id (x := at0 x i * at0 p c) (by omega) (by omega), wrap_id (x := at0 p i * at0 x c) (by omega) (by omega), wrap_id (by omega) (by omega), comb_at x p c h]
theorem comb_small (x p : List Int) (c : Nat) (h : x.length = p.length) (hx : Small x) (hp : Small p) (j : Nat) : (at0 (comb x p c) j).natAbs < 9223372036854775808 := by
  have h1 := mul_small (hx j) (hp c)
  have h2 := mul_small (hp j) (hx c)
  rw [comb_at x p c h]
  omega
theorem rowI_l0 (x p : List Int) (c : Nat) (h : x.length = p.length) (hl : x.length ≤ 16777216) (hc : c < x.length) (hx : Small x) (hp : Small p) (d : Nat) : ∀ i : Nat, x.length - i = d → i ≤ x.length → Ev (fun k => impl_reduceAny.l0 k (c : Int) p (mixl x (comb x p c) i) (at0 x c) (x.length : Int) (i : Int)) (tid (comb x p c)) := by
  have hcl := (comb_len x p c h).symm
  induction d with
  | zero =>
    intro i hd hi
    rw [mixl_all _ _ _ hcl (by omega)]
    refine Ev.step (f := fun k => (impl_tidy.f k (comb x p c)).bind fun t => some t) (fun k => ?_) (Ev.bind (tidyI_ev _ (by omega) (comb_small x p c h hx hp)) (Ev.now _))
    simp only [impl_reduceAny.l0]
    rw [if_neg (by omega)]
  | succ d ih =>
    intro i hd hi
    have hi2 : i < x.length := by omega
    have hm := mixl_len _ _ i hcl (by omega)
    refine Ev.step (f := fun k => impl_reduceAny.l0 k (c : Int) p (mixl x (comb x p c) (i + 1)) (at0 x c) (x.length : Int) ((i + 1 : Nat) : Int)) (fun k => ?_) (ih (i + 1) (by omega) (by omega))
    simp only [impl_reduceAny.l0]
    rw [if_pos (by omega), if_pos (by omega), if_pos (by omega), if_pos (by omega), if_pos (by omega), if_pos (by omega), at0_rd, at0_rd, at0_rd, mixl_at _ _ _ hcl, comb_step x p c i h hx hp, Int.toNat_natCast,
      mixl_set _ _ _ _ hcl (by rw [at0_lt (by omega), List.getElem?_eq_getElem (by omega)]), wrap_id (by omega) (by omega)]
    rfl
theorem rowI_ev (x p : List Int) (c : Nat) (h : x.length = p.length) (hl : x.length ≤ 16777216) (hc : c < x.length) (hx : Small x) (hp : Small p) : Ev (fun k => impl_reduceAny.row k (c : Int) p x) (clr c p x) := by
  unfold impl_reduceAny.row clr
  simp only [if_pos (show (0 : Int) ≤ (c : Int) by omega), if_pos (show (c : Int) < (x.length : Int) by omega), at0_rd]
  by_cases e : at0 x c = 0
  · simp only [if_pos e]
    exact Ev.now x
  · simp only [if_neg e]
    have := rowI_l0 x p c h hl hc hx hp x.length 0 (by omega) (by omega)
    rw [mixl_zero] at this
    exact this
theorem clearS_l0 (a p : List Int) (c : Nat) (h : a.length = p.length) (hl : a.length ≤ 16777216) (hc : c < a.length) (hx : Small a) (hp : Small p) (d : Nat) : ∀ i : Nat, a.length - i = d → i ≤ a.length → Ev (fun k => spec_l5Clear.l0 k a p (c : Int) ((comb a p c).take i) (i : Int)) (tid (comb a p c)) := by
  have hcl := comb_len a p c h
  induction d with
  | zero =>
    intro i hd hi
    rw [List.take_of_length_le (by omega)]
    refine Ev.step (f := fun k => (spec_l5Tidy.f k (comb a p c)).bind fun t => some t) (fun k => ?_) (Ev.bind (tidyS_ev _ (by omega) (comb_small a p c h hx hp)) (Ev.now _))
    simp only [spec_l5Clear.l0]
    rw [if_neg (by omega)]
  | succ d ih =>
    intro i hd hi
    have hi2 : i < (comb a p c).length := by omega
    refine Ev.step (f := fun k => spec_l5Clear.l0 k a p (c : Int) ((comb a p c).take (i + 1)) ((i + 1 : Nat) : Int)) (fun k => ?_) (ih (i + 1) (by omega) (by omega))
    simp only [spec_l5Clear.l0]
    rw [if_pos (by omega), if_pos (by omega), if_pos (by omega), if_pos (by omega), if_pos (by omega), if_pos (by omega), if_pos (by rw [List.length_take]; omega), at0_rd, at0_rd, at0_rd, at0_rd, comb_step a p c i h hx hp, at0_lt hi2, ← List.take_succ_eq_append_getElem hi2, wrap_id (by omega) (by omega)]
    rfl
theorem clearS_ev (a p : List Int) (c : Nat) (h : a.length = p.length) (hl : a.length ≤ 16777216) (hc : c < a.length) (hx : Small a) (hp : Small p) : Ev (fun k => spec_l5Clear.f k a p (c : Int)) (tid (comb a p c)) :=
  clearS_l0 a p c h hl hc hx hp a.length 0 (by omega) (by omega)
/-! ### the first row that begins in a column -/
def hit (c : Nat) (x : List Int) : Bool := decide (ld x = c ∧ c < x.length)
theorem idx106_l0 (X : List (List Int)) (c : Nat) (hl : X.length ≤ 16777216) (hr : ∀ x ∈ X, x.length ≤ 16777216) (d : Nat) : ∀ i : Nat, X.length - i = d → i ≤ X.length → (∀ j, j < i → ∀ x, X[j]? = some x → hit c x = false) →
    Ev (fun k => slices_IndexFunc_int_int_106.l0 k X (c : Int) (X.length : Int) (i : Int)) (if X.findIdx (hit c) < X.length then (X.findIdx (hit c) : Int) else -1) := by
  induction d with
  | zero =>
    intro i hd hi hh
    have hn : ¬ X.findIdx (hit c) < X.length := fun h => by
      have h1 := List.findIdx_getElem (w := h)
      have h2 := hh _ (by omega) _ (List.getElem?_eq_getElem h)
      rw [h2] at h1
      cases h1
    rw [if_neg hn]
    refine Ev.step (f := fun _ => some (-1)) (fun k => ?_) (Ev.now _)
    simp only [slices_IndexFunc_int_int_106.l0]
    rw [if_neg (by omega)]
  | succ d ih =>
    intro i hd hi hh
    have h : i < X.length := by omega
    have hlead := leadI_ev X[i] (hr _ (List.getElem_mem h))
    refine Ev.step (f := fun k => (impl_lead.f k X[i]).bind fun t => if t = (c : Int) then some (i : Int) else slices_IndexFunc_int_int_106.l0 k X (c : Int) (X.length : Int) ((i + 1 : Nat) : Int)) (fun k => ?_) (Ev.bind hlead ?_)
    · simp only [slices_IndexFunc_int_int_106.l0]
      rw [if_pos (by omega), if_pos (by omega), if_pos (by omega), rdL_nat X i h, wrap_id (by omega) (by omega)]
      rfl
    · by_cases e : hit c X[i] = true
      · have e' : ld X[i] = c ∧ c < X[i].length := by simpa [hit] using e
        have hf : X.findIdx (hit c) = i := by
          refine (List.findIdx_eq h).2 ⟨e, fun j hj => ?_⟩
          exact hh j hj _ (List.getElem?_eq_getElem (by omega))
        rw [hf, if_pos h]
        simp only [if_pos (show ld X[i] < X[i].length by omega), if_pos (show (ld X[i] : Int) = (c : Int) by omega)]
        exact Ev.now _
      · have e' : ¬ (ld X[i] = c ∧ c < X[i].length) := by simpa [hit] using e
        simp only [if_neg (show ¬ (if ld X[i] < X[i].length then (ld X[i] : Int) else -1) = (c : Int) by split <;> omega)]
        refine ih (i + 1) (by omega) (by omega) fun j hj x hx => ?_
        by_cases ej : j = i
        · subst ej
          rw [List.getElem?_eq_getElem h] at hx
          cases hx
          simpa using e
        · exact hh j (by omega) x hx
theorem idx106_ev (X : List (List Int)) (c : Nat) (hl : X.length ≤ 16777216) (hr : ∀ x ∈ X, x.length ≤ 16777216) : Ev (fun k => slices_IndexFunc_int_int_106.f k X (c : Int)) (if X.findIdx (hit c) < X.length then (X.findIdx (hit c) : Int) else -1) :=
  idx106_l0 X c hl hr X.length 0 (by omega) (by omega) fun j hj => by omega
theorem copy_l0 (l : List (List Int)) (hl : l.length ≤ 16777216) (hr : ∀ x ∈ l, x.length ≤ 16777216) (d : Nat) : ∀ i : Nat, l.length - i = d → i ≤ l.length → Ev (fun k => impl_copyRows.l0 k (l.take i) l (l.length : Int) (i : Int)) l := by
  induction d with
  | zero =>
    intro i hd hi
    rw [List.take_of_length_le (by omega)]
    refine Ev.step (f := fun _ => some l) (fun k => ?_) (Ev.now _)
    simp only [impl_copyRows.l0]
    rw [if_neg (by omega)]
  | succ d ih =>
    intro i hd hi
    have h : i < l.length := by omega
    have hc : slices_Clone_int_int.f l[i] = some l[i] := by
      have := hr _ (List.getElem_mem h)
      unfold slices_Clone_int_int.f
      simp only [Option.bind_some, List.length_nil, List.nil_append, Nat.zero_add]
      rw [if_pos (by omega)]
    refine Ev.step (f := fun k => impl_copyRows.l0 k (l.take (i + 1)) l (l.length : Int) ((i + 1 : Nat) : Int)) (fun k => ?_) (ih (i + 1) (by omega) (by omega))
    simp only [impl_copyRows.l0]
    rw [if_pos (by omega), if_pos (by omega), if_pos (by omega), rdL_nat l i h, hc]
    simp only [Option.bind_some]
    rw [if_pos (by rw [List.length_take]; omega), ← List.take_succ_eq_append_getElem h, wrap_id (by omega) (by omega)]
    rfl
theorem copy_ev (l : List (List Int)) (hl : l.length ≤ 16777216) (hr : ∀ x ∈ l, x.length ≤ 16777216) : Ev (fun k => impl_copyRows.f k l) l := copy_l0 l hl hr l.length 0 (by omega) (by omega)
/-! ### the program's reduction -/
theorem findIdx_hit (Q : List (List Int)) (c : Nat) (h : Q.findIdx (hit c) < Q.length) : hit c Q[Q.findIdx (hit c)] = true := List.findIdx_getElem (w := h)
theorem implLp {S : V → Prop} {m0 n : Nat} (hb : ∀ o, S o → ∀ j, (o j).natAbs ≤ bnd m0 j) (hm0 : m0 ≤ 6) (hn : n ≤ m0 + 1) (d : Nat) : ∀ (c : Nat) (P : List (List Int × Nat)) (Q : List (List Int)), c + d = n → Red S c P Q → (∀ p ∈ P, p.1.length = n) → (∀ q ∈ Q, q.length = n) → Q.length ≤ 16777216 →
    ∃ P' Q', Red S n P' Q' ∧ (∀ p ∈ P', p.1.length = n) ∧ (∀ q ∈ Q', q.length = n) ∧ Ev (fun k => impl_reduceAny.lp k d c Q (P.map (·.1)).reverse) (P'.map (·.1)).reverse := by
  induction d with
  | zero =>
    intro c P Q hcd hR hP hQ hl
    obtain rfl : n = c := by omega
    exact ⟨P, Q, hR, hP, hQ, Ev.now _⟩
  | succ d ih =>
    intro c P Q hcd hR hP hQ hl
    have hidx := idx106_ev Q c hl fun q hq => by rw [hQ q hq]; omega
    by_cases hf : Q.findIdx (hit c) < Q.length
    · obtain ⟨i, hi⟩ : ∃ i, i = Q.findIdx (hit c) := ⟨_, rfl⟩
      have hh := findIdx_hit Q c hf
      simp only [← hi] at hidx hf hh
      obtain ⟨q, hq⟩ : ∃ q, q = Q[i] := ⟨_, rfl⟩
      rw [← hq] at hh
      have hqm : q ∈ Q := by rw [hq]; exact List.getElem_mem hf
      have hh' : ld q = c ∧ c < q.length := by simpa [hit] using hh
      have hqc : at0 q c ≠ 0 := by
        have := ld_ne q (by omega)
        rwa [hh'.1] at this
      have hsQ : ∀ r ∈ Q, Small r := fun r hr j => hR.small_rest hb (by omega) hm0 r hr j
      have hsP : ∀ p ∈ P, Small p.1 := fun p hp j => by
        have := hR.small_piv' hb (by omega) hm0 p hp j
        omega
      have hst := hR.step (Q' := Q.eraseIdx i) hP hQ q hqc hqm (fun x hx => by
        by_cases e : x = q
        · exact .inl e
        · right
          obtain ⟨j, hj, rfl⟩ := List.getElem_of_mem hx
          have hji : j ≠ i := fun e2 => by
            subst e2
            exact e hq.symm
          rw [List.mem_iff_getElem?]
          by_cases hlt : j < i
          · exact ⟨j, by rw [List.getElem?_eraseIdx, if_pos hlt, List.getElem?_eq_getElem hj]⟩
          · refine ⟨j - 1, ?_⟩
            rw [List.getElem?_eraseIdx, if_neg (by omega), show j - 1 + 1 = j by omega, List.getElem?_eq_getElem hj]) (fun x hx => List.mem_of_mem_eraseIdx hx)
      obtain ⟨P', Q', hR', hP', hQ', hev⟩ := ih (c + 1) _ _ (by omega) hst (fun p hp => by
        rcases List.mem_cons.1 hp with h | h
        · rw [h]; exact hQ q hqm
        · obtain ⟨p2, hp2, e⟩ := List.mem_map.1 h
          rw [← e]
          show (clr c q p2.1).length = n
          rw [clr_len c q p2.1 (by rw [hP p2 hp2, hQ q hqm]), hP p2 hp2]) (fun r hr => by
        obtain ⟨r2, hr2, e⟩ := List.mem_map.1 hr
        have := hQ r2 (List.mem_of_mem_eraseIdx hr2)
        rw [← e, clr_len c q r2 (by rw [this, hQ q hqm]), this]) (by rw [List.length_map, List.length_eraseIdx, if_pos hf]; omega)
      refine ⟨P', Q', hR', hP', hQ', ?_⟩
      refine Ev.congr (f := fun k => (slices_IndexFunc_int_int_106.f k Q (c : Int)).bind fun i => if i < 0 then impl_reduceAny.lp k d (c + 1) Q (P.map (·.1)).reverse else if i < (Q.length : Int) then (impl_reduceAny.mapO (impl_reduceAny.row k (c : Int) (Q.getD i.toNat [])) (Q.eraseIdx i.toNat)).bind fun X' => (impl_reduceAny.mapO (impl_reduceAny.row k (c : Int) (Q.getD i.toNat [])) (P.map (·.1)).reverse).bind fun Y' => impl_reduceAny.lp k d (c + 1) X' (Y' ++ [Q.getD i.toNat []]) else none) (fun k => rfl) (Ev.bind hidx ?_)
      simp only [if_pos hf]
      simp only [if_neg (show ¬ (i : Int) < 0 by omega), if_pos (show (i : Int) < (Q.length : Int) by omega), Int.toNat_natCast]
      have hgd : Q.getD i [] = q := by rw [hq, List.getD_eq_getElem?_getD, List.getElem?_eq_getElem hf]; rfl
      simp only [hgd]
      refine Ev.bind (mapO_ev (fun k => impl_reduceAny.row k (c : Int) q) (clr c q) _ fun x hx => ?_) ?_
      · have hx2 := List.mem_of_mem_eraseIdx hx
        exact rowI_ev x q c (by rw [hQ x hx2, hQ q hqm]) (by rw [hQ x hx2]; omega) (by rw [hQ x hx2]; omega) (hsQ x hx2) (hsQ q hqm)
      · refine Ev.bind (mapO_ev (fun k => impl_reduceAny.row k (c : Int) q) (clr c q) _ fun x hx => ?_) ?_
        · obtain ⟨p, hp, e⟩ := List.mem_map.1 (List.mem_reverse.1 hx)
          subst e
          exact rowI_ev p.1 q c (by rw [hP p hp, hQ q hqm]) (by rw [hP p hp]; omega) (by rw [hP p hp]; omega) (hsP p hp) (hsQ q hqm)
        · have e : (P.map (·.1)).reverse.map (clr c q) ++ [q] = (((q, c) :: P.map fun p => (clr c q p.1, p.2)).map (·.1)).reverse := by
            simp [List.map_reverse, List.map_map, Function.comp_def]
          rw [e]
          exact hev
    · obtain ⟨P', Q', hR', hP', hQ', hev⟩ := ih (c + 1) P Q (by omega) (hR.skip fun q hq => by
        refine Classical.byContradiction fun hne => ?_
        have hld := ld_eq q c (fun j hj => hR.low q hq j hj) hne
        have hlt : c < q.length := by rw [hQ q hq]; omega
        have hh : hit c q = true := by simp [hit, hld, hlt]
        exact hf (List.findIdx_lt_length_of_exists ⟨q, hq, hh⟩)) hP hQ hl
      refine ⟨P', Q', hR', hP', hQ', ?_⟩
      refine Ev.congr (f := fun k => (slices_IndexFunc_int_int_106.f k Q (c : Int)).bind fun i => if i < 0 then impl_reduceAny.lp k d (c + 1) Q (P.map (·.1)).reverse else if i < (Q.length : Int) then (impl_reduceAny.mapO (impl_reduceAny.row k (c : Int) (Q.getD i.toNat [])) (Q.eraseIdx i.toNat)).bind fun X' => (impl_reduceAny.mapO (impl_reduceAny.row k (c : Int) (Q.getD i.toNat [])) (P.map (·.1)).reverse).bind fun Y' => impl_reduceAny.lp k d (c + 1) X' (Y' ++ [Q.getD i.toNat []]) else none) (fun k => rfl) (Ev.bind hidx ?_)
      simp only [if_neg hf]
      simp only [if_pos (show (-1 : Int) < 0 by omega)]
      exact hev
/-- The rows of a matrix: n columns, of which the first m0 (or all) are small. -/
structure Okm (m : List (List Int)) (m0 n : Nat) : Prop where
  pos : 1 ≤ n
  cols : n ≤ m0 + 1
  le6 : m0 ≤ 6
  rows : m.length ≤ 1000
  len : ∀ r ∈ m, r.length = n
  small : ∀ r ∈ m, ∀ j, (at0 r j).natAbs ≤ bnd m0 j
theorem Okm.start {m : List (List Int)} {m0 n : Nat} (h : Okm m m0 n) : (∀ o, RowSp m o → ∀ j, (o j).natAbs ≤ bnd m0 j) ∧ ∀ r ∈ m, ∀ j, (at0 r j).natAbs < 9223372036854775808 := by
  refine ⟨fun o ho j => ?_, fun r hr j => ?_⟩
  · obtain ⟨r, hr, rfl⟩ := ho
    exact h.small r hr j
  · have := h.small r hr j
    have := bnd_le m0 j
    omega
theorem implRed {m : List (List Int)} {m0 n : Nat} (h : Okm m m0 n) : ∃ P Q, Red (RowSp m) n P Q ∧ (∀ p ∈ P, p.1.length = n) ∧ (∀ q ∈ Q, q.length = n) ∧ Ev (fun k => impl_reduceAny.f k m (n : Int)) (P.map (·.1)).reverse := by
  have h1 := h.pos; have h2 := h.cols; have h3 := h.le6; have h4 := h.rows
  obtain ⟨P, Q, hR, hP, hQ, hev⟩ := implLp h.start.1 h.le6 h.cols n 0 [] (m.map tid) (by omega) (Red.start m) (by simp) (fun q hq => by
    obtain ⟨r, hr, rfl⟩ := List.mem_map.1 hq
    rw [tid_len, h.len r hr]) (by rw [List.length_map]; omega)
  refine ⟨P, Q, hR, hP, hQ, ?_⟩
  unfold impl_reduceAny.f
  refine Ev.bind (copy_ev m (by omega) fun r hr => by rw [h.len r hr]; omega) ?_
  simp only [if_pos (show 1 ≤ (n : Int) ∧ (n : Int) ≤ 1000000 ∧ m.length ≤ 1000000 ∧ (∀ x ∈ m, (x.length : Int) = (n : Int)) from ⟨by omega, by omega, by omega, fun x hx => by rw [h.len x hx]⟩)]
  refine Ev.bind (mapO_ev (fun k => impl_tidy.f k) tid m fun x hx => tidyI_ev x (by rw [h.len x hx]; omega) (h.start.2 x hx)) ?_
  rw [Int.toNat_natCast]
  exact hev
/-! ### the reference's reduction -/
/-- The rows behind the swap: the one at j goes to the front; the first goes to where it was. -/
def swp (Q : List (List Int)) (j : Nat) : List (List Int) := (Q.set j (Q.getD 0 [])).tail
theorem swp_set (L Q : List (List Int)) (j : Nat) (q : List Int) (h : j < Q.length) : ((L ++ Q).set (L.length + j) (Q.getD 0 [])).set L.length q = L ++ q :: swp Q j := by
  rw [List.set_append_right _ _ (by omega), Nat.add_sub_cancel_left, List.set_append_right _ _ (by omega), Nat.sub_self]
  congr 1
  unfold swp
  cases hQ : Q.set j (Q.getD 0 []) with
  | nil =>
    have := congrArg List.length hQ
    simp at this
    subst this
    simp at h
  | cons a l => simp
theorem swp_len (Q : List (List Int)) (j : Nat) (h : j < Q.length) : (swp Q j).length + 1 = Q.length := by
  unfold swp
  rw [List.length_tail, List.length_set]
  omega
theorem swp_get (Q : List (List Int)) (j i : Nat) : (swp Q j)[i]? = if j = i + 1 ∧ i + 1 < Q.length then some (Q.getD 0 []) else Q[i + 1]? := by
  unfold swp
  rw [List.getElem?_tail, List.getElem?_set]
  by_cases h1 : j = i + 1
  · subst h1
    by_cases h2 : i + 1 < Q.length
    · simp [h2]
    · simp [h2]
  · simp [h1]
theorem swp_sub (Q : List (List Int)) (j : Nat) (h : j < Q.length) : ∀ x ∈ swp Q j, x ∈ Q := fun x hx => by
  obtain ⟨i, hi⟩ := List.getElem?_of_mem hx
  rw [swp_get] at hi
  split at hi
  · cases hi
    rw [List.getD_eq_getElem?_getD, List.getElem?_eq_getElem (by omega)]
    exact List.getElem_mem _
  · exact List.mem_of_getElem? hi
theorem swp_all (Q : List (List Int)) (j : Nat) (h : j < Q.length) : ∀ x ∈ Q, x = Q[j] ∨ x ∈ swp Q j := fun x hx => by
  obtain ⟨i, hi, rfl⟩ := List.getElem_of_mem hx
  by_cases e : i = j
  · subst e; exact .inl rfl
  · right
    by_cases h0 : i = 0
    · subst h0
      refine List.mem_of_getElem? (i := j - 1) ?_
      rw [swp_get, if_pos ⟨by omega, by omega⟩, List.getD_eq_getElem?_getD, List.getElem?_eq_getElem hi]
      rfl
    · refine List.mem_of_getElem? (i := i - 1) ?_
      rw [swp_get, if_neg (by omega), show i - 1 + 1 = i by omega, List.getElem?_eq_getElem hi]
theorem specL3 {α : Nat → Option (List (List Int))} (R F : List (List Int)) (cols : Int) (at_ c n : Nat) (q : List Int) (r : List (List Int)) (hl : R.length = F.length) (hR : R.length ≤ 1000) (hat : at_ < R.length) (hq : R[at_]? = some q) (hqF : F[at_]? = some q) (hn : n ≤ 16777216) (hc : c < n)
    (hlen : ∀ x ∈ R, x.length = n) (hsm : ∀ x ∈ R, Small x) (hF : ∀ i x, i ≠ at_ → R[i]? = some x → F[i]? = some (clr c q x)) (hc2 : c ≤ 1000)
    (hend : Ev (fun k => spec_l5Reduce.l1 k cols F ((at_ + 1 : Nat) : Int) ((c + 1 : Nat) : Int)) r) (d : Nat) : ∀ i : Nat, R.length - i = d → i ≤ R.length → Ev (fun k => spec_l5Reduce.l3 k cols (mixl R F i) (at_ : Int) (c : Int) (i : Int)) r := by
  have hqm : q ∈ R := List.mem_of_getElem? hq
  induction d with
  | zero =>
    intro i hd hi
    rw [mixl_all R F i hl (by omega)]
    refine Ev.step (f := fun k => spec_l5Reduce.l1 k cols F ((at_ + 1 : Nat) : Int) ((c + 1 : Nat) : Int)) (fun k => ?_) hend
    simp only [spec_l5Reduce.l3]
    rw [if_neg (by omega), wrap_id (by omega) (by omega), wrap_id (by omega) (by omega)]
    rfl
  | succ d ih =>
    intro i hd hi
    have h : i < R.length := by omega
    have hml := mixl_len R F i hl (by omega)
    by_cases e : i = at_
    · refine Ev.step (f := fun k => spec_l5Reduce.l3 k cols (mixl R F (i + 1)) (at_ : Int) (c : Int) ((i + 1 : Nat) : Int)) (fun k => ?_) (ih (i + 1) (by omega) (by omega))
      simp only [spec_l5Reduce.l3]
      rw [if_pos (by omega), if_pos (by omega), wrap_id (by omega) (by omega), mixl_same R F i hl (by rw [e, hq, hqF])]
      rfl
    · have hx := List.getElem?_eq_getElem h
      have hxm : R[i] ∈ R := List.getElem_mem h
      have hgi : (mixl R F i)[i]? = some R[i] := by rw [mixl_get R F i i hl, if_neg (by omega), hx]
      have hga : (mixl R F i)[at_]? = some q := by
        rw [mixl_get R F i at_ hl]
        split
        · exact hqF
        · exact hq
      have hri : rd_L1 (mixl R F i) (i : Int) = R[i] := by
        rw [rdL_nat _ i (by omega)]
        exact (List.getElem?_eq_some_iff.1 hgi).2
      have hra : rd_L1 (mixl R F i) (at_ : Int) = q := by
        rw [rdL_nat _ at_ (by omega)]
        exact (List.getElem?_eq_some_iff.1 hga).2
      have hFi := hF i R[i] e hx
      have hlx := hlen _ hxm
      by_cases h0 : at0 R[i] c = 0
      · have hsame : F[i]? = R[i]? := by rw [hFi, hx]; unfold clr; rw [if_pos h0]
        refine Ev.step (f := fun k => spec_l5Reduce.l3 k cols (mixl R F (i + 1)) (at_ : Int) (c : Int) ((i + 1 : Nat) : Int)) (fun k => ?_) (ih (i + 1) (by omega) (by omega))
        simp only [spec_l5Reduce.l3]
        rw [if_pos (by omega), if_neg (by omega), if_pos (by omega), if_pos (by omega), hri, if_pos (by omega), at0_rd, if_pos h0, wrap_id (by omega) (by omega), mixl_same R F i hl hsame]
        rfl
      · have hcl := clearS_ev R[i] q c (by rw [hlx, hlen q hqm]) (by omega) (by omega) (hsm _ hxm) (hsm q hqm)
        refine Ev.step (f := fun k => (spec_l5Clear.f k R[i] q (c : Int)).bind fun t => spec_l5Reduce.l3 k cols ((mixl R F i).set i t) (at_ : Int) (c : Int) ((i + 1 : Nat) : Int)) (fun k => ?_) (Ev.bind hcl ?_)
        · simp only [spec_l5Reduce.l3]
          rw [if_pos (by omega), if_neg (by omega), if_pos (by omega), if_pos (by omega), hri, if_pos (by omega), at0_rd, if_neg h0, if_pos (by omega), if_pos (by omega), hra, wrap_id (by omega) (by omega), Int.toNat_natCast]
          rfl
        · have hFi2 : F[i]? = some (tid (comb R[i] q c)) := by
            rw [hFi]
            unfold clr
            rw [if_neg h0]
          simp only [mixl_set R F i _ hl hFi2]
          exact ih (i + 1) (by omega) (by omega)
theorem specL2 (rows : List (List Int)) (cols : Int) (at_ c : Nat) (r : List (List Int)) (hR : rows.length ≤ 1000) (hlen : ∀ x ∈ rows, c < x.length) (hc2 : c ≤ 1000) (p : Nat) (hp : p ≤ rows.length) (hz : ∀ i x, at_ ≤ i → i < p → rows[i]? = some x → at0 x c = 0) (hnz : ∀ x, rows[p]? = some x → at0 x c ≠ 0)
    (hend : Ev (fun k => spec_l5Reduce.j3 k cols rows (at_ : Int) (c : Int) (p : Int)) r) (d : Nat) : ∀ i : Nat, p - i = d → at_ ≤ i → i ≤ p → Ev (fun k => spec_l5Reduce.l2 k cols rows (at_ : Int) (c : Int) (i : Int)) r := by
  induction d with
  | zero =>
    intro i hd ha hi
    obtain rfl : p = i := by omega
    refine Ev.step (f := fun k => spec_l5Reduce.j3 k cols rows (at_ : Int) (c : Int) (p : Int)) (fun k => ?_) hend
    simp only [spec_l5Reduce.l2]
    by_cases h : p < rows.length
    · have h1 := hnz _ (List.getElem?_eq_getElem h)
      have h2 := hlen _ (List.getElem_mem h)
      rw [if_pos (by omega), if_pos (by omega), if_pos (by omega), rdL_nat rows p h, if_pos (by omega), at0_rd, if_neg h1]
    · rw [if_neg (by omega)]
  | succ d ih =>
    intro i hd ha hi
    have h : i < rows.length := by omega
    have h1 := hz i _ ha (by omega) (List.getElem?_eq_getElem h)
    have h2 := hlen _ (List.getElem_mem h)
    refine Ev.step (f := fun k => spec_l5Reduce.l2 k cols rows (at_ : Int) (c : Int) ((i + 1 : Nat) : Int)) (fun k => ?_) (ih (i + 1) (by omega) (by omega) (by omega))
    simp only [spec_l5Reduce.l2]
    rw [if_pos (by omega), if_pos (by omega), if_pos (by omega), rdL_nat rows i h, if_pos (by omega), at0_rd, if_pos h1, wrap_id (by omega) (by omega)]
    rfl
theorem specL1 {S : V → Prop} {m0 n cols : Nat} (hb : ∀ o, S o → ∀ j, (o j).natAbs ≤ bnd m0 j) (hm0 : m0 ≤ 6) (hn : n ≤ 7) (hcm : cols ≤ m0) (hcn : cols ≤ n) (d : Nat) : ∀ (c : Nat) (P : List (List Int × Nat)) (Q : List (List Int)), c + d = cols → Red S c P Q → (∀ p ∈ P, p.1.length = n) → (∀ q ∈ Q, q.length = n) → P.length + Q.length ≤ 1000 →
    ∃ P' Q', Red S cols P' Q' ∧ (∀ p ∈ P', p.1.length = n) ∧ (∀ q ∈ Q', q.length = n) ∧ P'.length + Q'.length = P.length + Q.length ∧ Ev (fun k => spec_l5Reduce.l1 k (cols : Int) ((P.map (·.1)).reverse ++ Q) (P.length : Int) (c : Int)) ((P'.map (·.1)).reverse ++ Q') := by
  induction d with
  | zero =>
    intro c P Q hcd hR hP hQ hl
    obtain rfl : cols = c := by omega
    refine ⟨P, Q, hR, hP, hQ, rfl, ?_⟩
    refine Ev.step (f := fun _ => some ((P.map (·.1)).reverse ++ Q)) (fun k => ?_) (Ev.now _)
    simp only [spec_l5Reduce.l1]
    rw [if_neg (by omega)]
  | succ d ih =>
    intro c P Q hcd hR hP hQ hl
    obtain ⟨L, hL⟩ : ∃ L, L = (P.map (·.1)).reverse := ⟨_, rfl⟩
    have hLl : L.length = P.length := by rw [hL]; simp
    have hLm : ∀ x ∈ L, ∃ p ∈ P, p.1 = x := fun x hx => by
      rw [hL] at hx
      obtain ⟨p, hp, e⟩ := List.mem_map.1 (List.mem_reverse.1 hx)
      exact ⟨p, hp, e⟩
    have hll : ∀ x ∈ L ++ Q, x.length = n := fun x hx => by
      rcases List.mem_append.1 hx with h | h
      · obtain ⟨p, hp, rfl⟩ := hLm x h
        exact hP p hp
      · exact hQ x h
    have hsm : ∀ x ∈ L ++ Q, Small x := fun x hx j => by
      rcases List.mem_append.1 hx with h | h
      · obtain ⟨p, hp, rfl⟩ := hLm x h
        have := hR.small_piv' hb (by omega) hm0 p hp j
        omega
      · exact hR.small_rest hb (by omega) hm0 x h j
    have hlen : (L ++ Q).length ≤ 1000 := by rw [List.length_append]; omega
    obtain ⟨j, hj⟩ : ∃ j, j = Q.findIdx (fun x => decide (at0 x c ≠ 0)) := ⟨_, rfl⟩
    have hjle : j ≤ Q.length := by rw [hj]; exact List.findIdx_le_length
    have hz : ∀ i x, i < j → Q[i]? = some x → at0 x c = 0 := fun i x hi hx => by
      have h1 := List.not_of_lt_findIdx (p := fun x => decide (at0 x c ≠ 0)) (xs := Q) (i := i) (by rw [← hj]; exact hi)
      have h2 := (List.getElem?_eq_some_iff.1 hx).2
      rw [h2] at h1
      simpa using h1
    -- behind the search
    have hl2 : ∀ r, Ev (fun k => spec_l5Reduce.j3 k (cols : Int) (L ++ Q) (P.length : Int) (c : Int) ((P.length + j : Nat) : Int)) r → Ev (fun k => spec_l5Reduce.l1 k (cols : Int) (L ++ Q) (P.length : Int) (c : Int)) r := fun r hr => by
      refine Ev.step (f := fun k => spec_l5Reduce.l2 k (cols : Int) (L ++ Q) (P.length : Int) (c : Int) (P.length : Int)) (fun k => ?_) ?_
      · simp only [spec_l5Reduce.l1]
        rw [if_pos (by omega)]
      · refine specL2 (L ++ Q) cols P.length c r hlen (fun x hx => by rw [hll x hx]; omega) (by omega) (P.length + j) (by rw [List.length_append]; omega) (fun i x h1 h2 hx => ?_) (fun x hx => ?_) hr j P.length (by omega) (by omega) (by omega)
        · rw [List.getElem?_append_right (by omega)] at hx
          exact hz _ x (by omega) hx
        · rw [List.getElem?_append_right (by omega), hLl, Nat.add_sub_cancel_left] at hx
          have h1 := (List.getElem?_eq_some_iff.1 hx).1
          have h2 := List.findIdx_getElem (p := fun x => decide (at0 x c ≠ 0)) (xs := Q) (w := by rw [← hj]; exact h1)
          have h3 := (List.getElem?_eq_some_iff.1 hx).2
          simp only [← hj, h3] at h2
          simpa using h2
    rw [← hL]
    by_cases hjl : j < Q.length
    · obtain ⟨q, hq⟩ : ∃ q, q = Q[j] := ⟨_, rfl⟩
      have hqm : q ∈ Q := by rw [hq]; exact List.getElem_mem hjl
      have hqc : at0 q c ≠ 0 := by
        have h2 := List.findIdx_getElem (p := fun x => decide (at0 x c ≠ 0)) (xs := Q) (w := by rw [← hj]; exact hjl)
        simp only [← hj, ← hq] at h2
        simpa using h2
      have hqt : tid q = q := by
        rcases hR.tq q hqm with h | ⟨h, k, h1, h2⟩
        · exact absurd (h c) hqc
        · exact tid_tidy q h k h1 h2
      have hst := hR.step (Q' := swp Q j) hP hQ q hqc hqm (by rw [hq]; exact swp_all Q j hjl) (swp_sub Q j hjl)
      obtain ⟨P', Q', hR', hP', hQ', hl', hev⟩ := ih (c + 1) _ _ (by omega) hst (fun p hp => by
        rcases List.mem_cons.1 hp with h | h
        · rw [h]; exact hQ q hqm
        · obtain ⟨p2, hp2, e⟩ := List.mem_map.1 h
          rw [← e]
          show (clr c q p2.1).length = n
          rw [clr_len c q p2.1 (by rw [hP p2 hp2, hQ q hqm]), hP p2 hp2]) (fun r hr => by
        obtain ⟨r2, hr2, e⟩ := List.mem_map.1 hr
        have := hQ r2 (swp_sub Q j hjl r2 hr2)
        rw [← e, clr_len c q r2 (by rw [this, hQ q hqm]), this]) (by
        have := swp_len Q j hjl
        simp only [List.length_cons, List.length_map]
        omega)
      refine ⟨P', Q', hR', hP', hQ', by
        have := swp_len Q j hjl
        simp only [List.length_cons, List.length_map] at hl'
        omega, hl2 _ ?_⟩
      have hrp : rd_L1 (L ++ Q) ((P.length + j : Nat) : Int) = q := by
        rw [rdL_nat _ _ (by rw [List.length_append]; omega), List.getElem_append_right (by omega), hq]
        congr 1
        omega
      have hra : rd_L1 (L ++ Q) (P.length : Int) = Q.getD 0 [] := by
        rw [rdL_nat _ _ (by rw [List.length_append]; omega), List.getElem_append_right (by omega), List.getD_eq_getElem?_getD, List.getElem?_eq_getElem (by omega)]
        show Q[_] = Q[0]
        congr 1
        omega
      have htd := tidyS_ev q (by rw [hQ q hqm]; omega) (fun i => by have := hsm q (List.mem_append_right _ hqm) i; omega)
      rw [hqt] at htd
      refine Ev.step (f := fun k => (spec_l5Tidy.f k q).bind fun t => spec_l5Reduce.l3 k (cols : Int) (((L ++ Q).set (P.length + j) (Q.getD 0 [])).set P.length t) (P.length : Int) (c : Int) 0) (fun k => ?_) (Ev.bind htd ?_)
      · simp only [spec_l5Reduce.j3]
        rw [if_neg (by rw [List.length_append]; omega), if_pos (by omega), if_pos (by rw [List.length_append]; omega), if_pos (by omega), if_pos (by rw [List.length_append]; omega), hrp, hra, Int.toNat_natCast, Int.toNat_natCast]
      · have hset := swp_set L Q j q hjl
        rw [hLl] at hset
        simp only [hset]
        have hFe : (((q, c) :: P.map fun p => (clr c q p.1, p.2)).map (·.1)).reverse ++ (swp Q j).map (clr c q) = L.map (clr c q) ++ q :: (swp Q j).map (clr c q) := by
          rw [hL]
          simp [List.map_reverse, List.map_map, Function.comp_def]
        rw [hFe] at hev
        have hall : ∀ x ∈ L ++ q :: swp Q j, x ∈ L ++ Q := fun x hx => by
          rcases List.mem_append.1 hx with h | h
          · exact List.mem_append_left _ h
          · rcases List.mem_cons.1 h with h | h
            · rw [h]; exact List.mem_append_right _ hqm
            · exact List.mem_append_right _ (swp_sub Q j hjl x h)
        have hsl := swp_len Q j hjl
        have h3 := specL3 (α := fun _ => none) (L ++ q :: swp Q j) (L.map (clr c q) ++ q :: (swp Q j).map (clr c q)) cols P.length c n q _ (by simp) (by simp; omega) (by simp; omega) (by rw [List.getElem?_append_right (by omega), hLl, Nat.sub_self]; rfl)
          (by rw [List.getElem?_append_right (by rw [List.length_map]; omega), List.length_map, hLl, Nat.sub_self]; rfl) (by omega) (by omega) (fun x hx => hll x (hall x hx)) (fun x hx => hsm x (hall x hx)) (fun i x hi hx => by
            rcases Nat.lt_or_ge i L.length with h | h
            · rw [List.getElem?_append_left h] at hx
              rw [List.getElem?_append_left (by rw [List.length_map]; exact h), List.getElem?_map, hx]
              rfl
            · rw [List.getElem?_append_right h] at hx
              rw [List.getElem?_append_right (by rw [List.length_map]; exact h), List.length_map]
              obtain ⟨e, he⟩ : ∃ e, i - L.length = e + 1 := ⟨i - L.length - 1, by omega⟩
              rw [he] at hx ⊢
              simp only [List.getElem?_cons_succ] at hx ⊢
              rw [List.getElem?_map, hx]
              rfl) (by omega) (by
            simp only [List.length_cons, List.length_map] at hev
            exact hev) _ 0 rfl (by omega)
        rw [mixl_zero] at h3
        exact h3
    · obtain rfl : j = Q.length := by omega
      obtain ⟨P', Q', hR', hP', hQ', hl', hev⟩ := ih (c + 1) P Q (by omega) (hR.skip fun q hq => by
        obtain ⟨i, hi, rfl⟩ := List.getElem_of_mem hq
        exact hz i _ hi (List.getElem?_eq_getElem hi)) hP hQ hl
      rw [← hL] at hev
      refine ⟨P', Q', hR', hP', hQ', hl', hl2 _ ?_⟩
      refine Ev.step (f := fun k => spec_l5Reduce.l1 k (cols : Int) (L ++ Q) (P.length : Int) ((c + 1 : Nat) : Int)) (fun k => ?_) hev
      simp only [spec_l5Reduce.j3]
      rw [if_pos (by rw [List.length_append]; omega), wrap_id (by omega) (by omega)]
      rfl
theorem specL0 (m : List (List Int)) (cols : Int) (r : List (List Int)) (hm : m.length ≤ 1000) (hl : ∀ x ∈ m, x.length ≤ 16777216) (hs : ∀ x ∈ m, ∀ j, (at0 x j).natAbs < 9223372036854775808)
    (hend : Ev (fun k => spec_l5Reduce.l1 k cols (m.map tid) 0 0) r) (d : Nat) : ∀ i : Nat, m.length - i = d → i ≤ m.length → Ev (fun k => spec_l5Reduce.l0 k m cols ((m.map tid).take i) (i : Int)) r := by
  induction d with
  | zero =>
    intro i hd hi
    rw [List.take_of_length_le (by rw [List.length_map]; omega)]
    refine Ev.step (f := fun k => spec_l5Reduce.l1 k cols (m.map tid) 0 0) (fun k => ?_) hend
    simp only [spec_l5Reduce.l0]
    rw [if_neg (by omega)]
  | succ d ih =>
    intro i hd hi
    have h : i < m.length := by omega
    have htd := tidyS_ev m[i] (hl _ (List.getElem_mem h)) (hs _ (List.getElem_mem h))
    refine Ev.step (f := fun k => (spec_l5Tidy.f k m[i]).bind fun t => spec_l5Reduce.l0 k m cols ((m.map tid).take i ++ [t]) ((i + 1 : Nat) : Int)) (fun k => ?_) (Ev.bind htd ?_)
    · simp only [spec_l5Reduce.l0]
      have h5 : ((m.map tid).take i).length < 5864062014805 := by rw [List.length_take]; omega
      rw [if_pos (by omega), if_pos (by omega), rdL_nat m i h, wrap_id (by omega) (by omega)]
      simp only [if_pos h5]
      rfl
    · have e : (m.map tid).take i ++ [tid m[i]] = (m.map tid).take (i + 1) := by
        rw [List.take_succ_eq_append_getElem (by rw [List.length_map]; exact h), List.getElem_map]
      simp only [e]
      exact ih (i + 1) (by omega) (by omega)
theorem specRed {m : List (List Int)} {m0 n cols : Nat} (h : Okm m m0 n) (hc : cols ≤ m0) (hcn : cols ≤ n) : ∃ P Q, Red (RowSp m) cols P Q ∧ (∀ p ∈ P, p.1.length = n) ∧ (∀ q ∈ Q, q.length = n) ∧ P.length + Q.length = m.length ∧ Ev (fun k => spec_l5Reduce.f k m (cols : Int)) ((P.map (·.1)).reverse ++ Q) := by
  have h1 := h.pos; have h2 := h.cols; have h3 := h.le6; have h4 := h.rows
  obtain ⟨P, Q, hR, hP, hQ, hl, hev⟩ := specL1 h.start.1 h.le6 (by omega) hc hcn cols 0 [] (m.map tid) (by omega) (Red.start m) (by simp) (fun q hq => by
    obtain ⟨r, hr, rfl⟩ := List.mem_map.1 hq
    rw [tid_len, h.len r hr]) (by simp; omega)
  refine ⟨P, Q, hR, hP, hQ, by simpa using hl, ?_⟩
  unfold spec_l5Reduce.f
  exact specL0 m cols _ h.rows (fun x hx => by rw [h.len x hx]; omega) h.start.2 (by simpa using hev) m.length 0 (by omega) (by omega)
theorem isMat_iff (m : List (List Int)) (c : Int) : isMat m c = true ↔ (1 ≤ c ∧ c ≤ 6) ∧ m.length ≤ 12 ∧ ∀ r ∈ m, (r.length : Int) = c ∧ ∀ x ∈ r, -2 ≤ x ∧ x ≤ 2 := by
  unfold isMat rowOk
  simp only [Bool.and_eq_true, decide_eq_true_eq, List.all_eq_true]
  constructor
  · rintro ⟨⟨h1, h2⟩, h3⟩
    exact ⟨h1, h2, h3⟩
  · rintro ⟨h1, h2, h3⟩
    exact ⟨⟨h1, h2⟩, h3⟩
theorem red_rest {S : V → Prop} {c n : Nat} {P : List (List Int × Nat)} {Q : List (List Int)} (h : Red S c P Q) (hcn : n ≤ c) (hQ : ∀ q ∈ Q, q.length = n) : ∀ q ∈ Q, ∀ j, at0 q j = 0 := fun q hq j => by
  rcases Nat.lt_or_ge j c with hj | hj
  · exact h.low q hq j hj
  · exact at0_out (by rw [hQ q hq]; omega)
theorem okm_of_isMat {m : List (List Int)} {c : Int} (h : isMat m c = true) : ∃ n : Nat, c = (n : Int) ∧ Okm m n n ∧ m.length ≤ 12 := by
  have h' := (isMat_iff m c).1 h
  obtain ⟨h1, h2, h3⟩ := h'
  refine ⟨c.toNat, by omega, ⟨by omega, by omega, by omega, by omega, fun r hr => ?_, fun r hr j => ?_⟩, h2⟩
  · have := (h3 r hr).1
    omega
  · have h4 := h3 r hr
    rcases Nat.lt_or_ge j r.length with hj | hj
    · rw [at0_lt hj]
      have h5 := h4.2 _ (List.getElem_mem hj)
      unfold bnd
      rw [if_pos (by omega)]
      omega
    · rw [at0_out hj]
      simp
/-! ### ReduceRows of the reference, and that both are one -/
theorem specRR_l0 (rows : List (List Int)) (cols : Nat) (hr : rows.length ≤ 1000) (hl : ∀ x ∈ rows, x.length ≤ 16777216) (hc : cols ≤ 1000) (d : Nat) : ∀ i : Nat, rows.length - i = d → i ≤ rows.length → Ev (fun k => spec_ReduceRows.l0 k (cols : Int) ((rows.take i).filter fun x => decide (ld x < cols)) rows (i : Int)) (rows.filter fun x => decide (ld x < cols)) := by
  induction d with
  | zero =>
    intro i hd hi
    rw [List.take_of_length_le (by omega)]
    refine Ev.step (f := fun _ => some (rows.filter fun x => decide (ld x < cols))) (fun k => ?_) (Ev.now _)
    simp only [spec_ReduceRows.l0]
    rw [if_neg (by omega)]
  | succ d ih =>
    intro i hd hi
    have h : i < rows.length := by omega
    have hx := hl _ (List.getElem_mem h)
    have hlead := leadS_ev rows[i] hx
    have ht : rows.take (i + 1) = rows.take i ++ [rows[i]] := List.take_succ_eq_append_getElem h
    have hfl : ((rows.take i).filter fun x => decide (ld x < cols)).length ≤ 1000 := by
      have h1 := List.length_filter_le (fun x => decide (ld x < cols)) (rows.take i)
      have h2 : (rows.take i).length ≤ rows.length := by rw [List.length_take]; omega
      omega
    have hih := ih (i + 1) (by omega) (by omega)
    rw [ht, List.filter_append] at hih
    refine Ev.step (f := fun k => (spec_l5Lead.f k rows[i]).bind fun t => if t < (cols : Int) then spec_ReduceRows.l0 k (cols : Int) (((rows.take i).filter fun x => decide (ld x < cols)) ++ [rows[i]]) rows ((i + 1 : Nat) : Int) else spec_ReduceRows.l0 k (cols : Int) ((rows.take i).filter fun x => decide (ld x < cols)) rows ((i + 1 : Nat) : Int)) (fun k => ?_) (Ev.bind hlead ?_)
    · simp only [spec_ReduceRows.l0]
      rw [if_pos (by omega), if_pos (by omega), rdL_nat rows i h, wrap_id (by omega) (by omega)]
      have h4 : rows[i].length < 17592186044416 := by omega
      have h5 : ((rows.take i).filter fun x => decide (ld x < cols)).length < 5864062014805 := by omega
      simp only [Option.bind_some, List.nil_append, List.length_nil, Nat.zero_add, if_pos h4, if_pos h5]
      rfl
    · by_cases hlt : ld rows[i] < cols
      · have e : [rows[i]].filter (fun x => decide (ld x < cols)) = [rows[i]] := by simp [hlt]
        rw [e] at hih
        simp only [if_pos (show (ld rows[i] : Int) < (cols : Int) by omega)]
        exact hih
      · have e : [rows[i]].filter (fun x => decide (ld x < cols)) = [] := by simp; omega
        rw [e, List.append_nil] at hih
        simp only [if_neg (show ¬ (ld rows[i] : Int) < (cols : Int) by omega)]
        exact hih
/-- Of a reduced matrix the rows that begin in the columns are those with pivots. -/
theorem red_kept {S : V → Prop} {c n : Nat} {P : List (List Int × Nat)} {Q : List (List Int)} (h : Red S c P Q) (hcn : c ≤ n) (hQ : ∀ q ∈ Q, q.length = n) : ((P.map (·.1)).reverse ++ Q).filter (fun x => decide (ld x < c)) = (P.map (·.1)).reverse := by
  rw [List.filter_append, List.filter_eq_self.2, List.filter_eq_nil_iff.2, List.append_nil]
  · intro q hq
    have h1 : c ≤ ld q := Nat.le_of_not_lt fun hlt => ld_ne q (by rw [hQ q hq]; omega) (h.low q hq _ hlt)
    simpa using h1
  · intro x hx
    obtain ⟨p, hp, rfl⟩ := List.mem_map.1 (List.mem_reverse.1 hx)
    have h1 := ld_eq p.1 p.2 (h.lead p hp) (by have := h.pos p hp; omega)
    have h2 := h.ncol p hp
    simp
    omega
/-- What the reference's ReduceRows answers. -/
theorem specRR_ev (m : List (List Int)) (c : Int) (hm : m.length ≤ 16777216) (hr : ∀ x ∈ m, x.length ≤ 16777216) : ∃ R : List (List Int), Ev (fun k => spec_ReduceRows.f k m c) R ∧ R.length ≤ 1000 ∧ (∀ x ∈ R, x.length ≤ 1000) ∧
    (isMat m c = true → ∃ (n : Nat) (P : List (List Int × Nat)) (Q : List (List Int)), c = (n : Int) ∧ Okm m n n ∧ Red (RowSp m) n P Q ∧ (∀ p ∈ P, p.1.length = n) ∧ (∀ q ∈ Q, ∀ j, at0 q j = 0) ∧ R = (P.map (·.1)).reverse) ∧ (isMat m c = false → R = []) := by
  have hms := specMat_ev m hm hr c
  cases hb : isMat m c with
  | false =>
    rw [hb] at hms
    refine ⟨[], ?_, by simp, by simp, by simp, by simp⟩
    unfold spec_ReduceRows.f
    simp only [Option.bind_some]
    refine Ev.bind hms ?_
    simp only [Bool.false_eq_true, if_false]
    exact Ev.now _
  | true =>
    rw [hb] at hms
    obtain ⟨n, rfl, hok, hm12⟩ := okm_of_isMat hb
    have h1 := hok.pos; have h3 := hok.le6
    obtain ⟨P, Q, hR, hP, hQ, hl2, hevS⟩ := specRed hok (cols := n) (Nat.le_refl _) (Nat.le_refl _)
    have hz := red_rest hR (Nat.le_refl _) hQ
    have hPl := hR.len
    have hfin := specRR_l0 ((P.map (·.1)).reverse ++ Q) n (by rw [List.length_append, List.length_reverse, List.length_map]; omega) (fun x hx => by
      rcases List.mem_append.1 hx with h | h
      · obtain ⟨p, hp, rfl⟩ := List.mem_map.1 (List.mem_reverse.1 h)
        rw [hP p hp]; omega
      · rw [hQ x h]; omega) (by omega) _ 0 rfl (by omega)
    rw [red_kept hR (Nat.le_refl _) hQ] at hfin
    refine ⟨(P.map (·.1)).reverse, ?_, by simp; omega, fun x hx => ?_, fun _ => ⟨n, P, Q, rfl, hok, hR, hP, hz, rfl⟩, by simp⟩
    · unfold spec_ReduceRows.f
      simp only [Option.bind_some]
      refine Ev.bind hms ?_
      simp only [if_true]
      refine Ev.bind hevS ?_
      simpa using hfin
    · obtain ⟨p, hp, rfl⟩ := List.mem_map.1 (List.mem_reverse.1 hx)
      rw [hP p hp]; omega
/-- What both sides' ReduceRows answer. -/
theorem rr_both (m : List (List Int)) (c : Int) (hm : m.length ≤ 16777216) (hr : ∀ x ∈ m, x.length ≤ 16777216) : ∃ R : List (List Int), Ev (fun k => impl_ReduceRows.f k m c) R ∧ Ev (fun k => spec_ReduceRows.f k m c) R ∧ R.length ≤ 1000 ∧ (∀ x ∈ R, x.length ≤ 1000) ∧
    (isMat m c = true → ∃ (n : Nat) (P : List (List Int × Nat)) (Q : List (List Int)), c = (n : Int) ∧ Okm m n n ∧ Red (RowSp m) n P Q ∧ (∀ p ∈ P, p.1.length = n) ∧ (∀ q ∈ Q, ∀ j, at0 q j = 0) ∧ R = (P.map (·.1)).reverse) ∧ (isMat m c = false → R = []) := by
  have hmi := implMat_ev m hm hr c
  obtain ⟨R, hS, hRl, hRr, hT, hF⟩ := specRR_ev m c hm hr
  refine ⟨R, ?_, hS, hRl, hRr, hT, hF⟩
  cases hb : isMat m c with
  | false =>
    rw [hb] at hmi
    rw [hF hb]
    unfold impl_ReduceRows.f
    refine Ev.bind hmi ?_
    simp only [Bool.false_eq_true, if_false]
    exact Ev.now _
  | true =>
    rw [hb] at hmi
    obtain ⟨n, P, Q, rfl, hok, hR, hP, hz, hRe⟩ := hT hb
    obtain ⟨P2, Q2, hR2, hP2, hQ2, hevI⟩ := implRed hok
    have heq : P = P2 := hR.eq hz hR2 (fun v => Iff.rfl) hP hP2
    subst heq
    rw [hRe]
    unfold impl_ReduceRows.f
    refine Ev.bind hmi ?_
    simp only [if_true]
    exact Ev.bind hevI (Ev.now _)

theorem markIntS_l0 (d : Nat) : ∀ (x : List Int) (a : Int) (i : Nat), x.length ≤ 16777216 → x.length - i = d → i ≤ x.length → 0 < a → a + d < 1073741824 → ∃ y : List Int, y.length = x.length ∧ (∀ j : Nat, j < i → rd y j = rd x j) ∧ (∀ j : Nat, i ≤ j → j < x.length → rd y j = a + (j - i : Nat)) ∧ Ev (fun k => laws_markIntS.l0 k x a (i : Int)) (a + d, y) := by
  induction d with
  | zero =>
    intro x a i hl hd hi h0 h1
    refine ⟨x, rfl, fun _ _ => rfl, fun j h2 h3 => by omega, ?_⟩
    refine Ev.step (f := fun _ => some (a, x)) (fun k => ?_) (by simpa using Ev.now (a, x))
    simp only [laws_markIntS.l0]
    rw [if_neg (by omega)]
  | succ d ih =>
    intro x a i hl hd hi h0 h1
    have h : i < x.length := by omega
    obtain ⟨y, hy, hy1, hy2, hy3⟩ := ih (x.set i (a)) (a + 1) (i + 1) (by simpa using hl) (by simp; omega) (by simp; omega) (by omega) (by omega)
    refine ⟨y, by simpa using hy, fun j hj => ?_, fun j h2 h3 => ?_, ?_⟩
    · rw [hy1 j (by omega), rd_nat _ j (by simp; omega), rd_nat _ j (by omega), List.getElem_set_ne (by omega)]
    · by_cases e : i = j
      · subst e
        rw [hy1 i (by omega), rd_nat _ i (by simp; omega), List.getElem_set_self]
        simp
      · rw [hy2 j (by omega) (by simpa using h3)]
        have : a + 1 + ((j - (i + 1) : Nat) : Int) = a + ((j - i : Nat) : Int) := by omega
        rw [this]
    · have e : a + ((d + 1 : Nat) : Int) = a + 1 + (d : Int) := by omega
      rw [e]
      refine Ev.step (f := fun k => laws_markIntS.l0 k (x.set i (a)) (a + 1) ((i + 1 : Nat) : Int)) (fun k => ?_) hy3
      simp only [laws_markIntS.l0]
      rw [if_pos (by omega), if_pos (by omega), wrap_id (x := a + 1) (by omega) (by omega), wrap_id (x := (i : Int) + 1) (by omega) (by omega), Int.toNat_natCast]
      rfl
theorem markIntS_ev (x : List Int) (a : Int) (hl : x.length ≤ 16777216) (h0 : 0 < a) (h1 : a + x.length < 1073741824) : ∃ y : List Int, y.length = x.length ∧ (∀ j : Nat, j < y.length → rd y j = a + (j : Nat)) ∧ Ev (fun k => laws_markIntS.f k x a) (a + (x.length : Int), y) := by
  obtain ⟨y, hy, _, hy2, hy3⟩ := markIntS_l0 x.length x a 0 hl (by omega) (by omega) h0 (by omega)
  exact ⟨y, hy, fun j hj => by simpa using hy2 j (by omega) (by omega), Ev.congr (f := fun k => laws_markIntS.l0 k x a ((0 : Nat) : Int)) (fun k => rfl) hy3⟩

theorem heldIntS_l0 (d : Nat) : ∀ (y : List Int) (a : Int) (i : Nat), y.length ≤ 16777216 → y.length - i = d → i ≤ y.length → 0 < a → a + d < 1073741824 → (∀ j : Nat, i ≤ j → j < y.length → rd y j = a + (j - i : Nat)) → Ev (fun k => laws_heldIntS.l0 k y a (i : Int)) (a + d) := by
  induction d with
  | zero =>
    intro y a i hl hd hi h0 h1 hy
    refine Ev.step (f := fun _ => some a) (fun k => ?_) (by simpa using Ev.now a)
    simp only [laws_heldIntS.l0]
    rw [if_neg (by omega)]
  | succ d ih =>
    intro y a i hl hd hi h0 h1 hy
    have e : a + ((d + 1 : Nat) : Int) = a + 1 + (d : Int) := by omega
    rw [e]
    have hri := hy i (by omega) (by omega)
    simp only [Nat.sub_self, Int.natCast_zero, Int.add_zero] at hri
    refine Ev.step (f := fun k => laws_heldIntS.l0 k y (a + 1) ((i + 1 : Nat) : Int)) (fun k => ?_) (ih y (a + 1) (i + 1) hl (by omega) (by omega) (by omega) (by omega) fun j h2 h3 => ?_)
    · simp only [laws_heldIntS.l0]
      rw [if_pos (by omega), if_pos (by omega), if_pos hri, wrap_id (x := a + 1) (by omega) (by omega), wrap_id (x := (i : Int) + 1) (by omega) (by omega)]
      rfl
    · rw [hy j (by omega) h3]
      have : a + 1 + ((j - (i + 1) : Nat) : Int) = a + ((j - i : Nat) : Int) := by omega
      rw [this]
theorem heldIntS_ev (y : List Int) (a : Int) (n : Nat) (hn : y.length = n) (hl : n ≤ 16777216) (h0 : 0 < a) (h1 : a + n < 1073741824) (hy : ∀ j : Nat, j < y.length → rd y j = a + (j : Nat)) : Ev (fun k => laws_heldIntS.f k y a) (a + (n : Int)) := by
  refine Ev.congr (f := fun k => laws_heldIntS.l0 k y a ((0 : Nat) : Int)) (fun k => rfl) ?_
  exact heldIntS_l0 n y a 0 (by omega) (by omega) (by omega) h0 h1 fun j _ hj => by simpa using hy j hj

inductive Marked : List (List Int) → Int → Int → Prop
  | nil (a : Int) : Marked [] a a
  | cons (y : List Int) (Y : List (List Int)) (a b : Int) (n : Nat) : y.length = n → n ≤ 16777216 → a + (n : Int) < 1073741824 → (∀ j : Nat, j < y.length → rd y j = a + (j : Nat)) → Marked Y (a + (n : Int)) b → Marked (y :: Y) a b
theorem markIntSS_ev : ∀ (X : List (List Int)) (a : Int), (∀ x ∈ X, x.length ≤ 16777216) → 0 < a → a + sumLen X < 1073741824 → ∃ Y, Y.length = X.length ∧ Marked Y a (a + sumLen X) ∧ Ev (fun k => laws_markIntSS.f k X a) (a + sumLen X, Y)
  | [], a, _, _, _ => ⟨[], rfl, by simpa [sumLen] using Marked.nil a, by
    refine Ev.congr (f := fun _ => some (a + sumLen [], [])) (fun k => ?_) (Ev.now _)
    simp [laws_markIntSS.f, sumLen]⟩
  | x :: X, a, hm, h0, h1 => by
    have hs : sumLen (x :: X) = x.length + sumLen X := by simp [sumLen]
    rw [hs] at h1 ⊢
    obtain ⟨y, hy, hy2, hy3⟩ := markIntS_ev x a (hm x (by simp)) h0 (by omega)
    obtain ⟨Y, hY, hY2, hY3⟩ := markIntSS_ev X (a + x.length) (fun z hz => hm z (by simp [hz])) (by omega) (by omega)
    have e : a + ((x.length + sumLen X : Nat) : Int) = a + (x.length : Int) + (sumLen X : Int) := by omega
    rw [e]
    refine ⟨y :: Y, by simp [hY], Marked.cons y Y a _ x.length hy (hm x (by simp)) (by omega) hy2 hY2, ?_⟩
    refine Ev.congr (f := fun k => (laws_markIntS.f k x a).bind fun p => (laws_markIntSS.f k X p.1).bind fun q => some (q.1, p.2 :: q.2)) (fun k => by simp only [laws_markIntSS.f]) ?_
    refine Ev.bind hy3 ?_
    refine Ev.bind hY3 ?_
    exact Ev.now _
theorem Marked.le {Y : List (List Int)} {a b : Int} (h : Marked Y a b) : a ≤ b := by
  induction h with
  | nil a => omega
  | cons y Y a b n h1 h2 h3 h4 h5 ih => omega
theorem heldIntSS_l0 (Y : List (List Int)) (b : Int) (hl : Y.length ≤ 16777216) (d : Nat) : ∀ (i : Nat) (a : Int), Y.length - i = d → 0 < a → Marked (Y.drop i) a b → Ev (fun k => laws_heldIntSS.l0 k Y a (i : Int)) b := by
  induction d with
  | zero =>
    intro i a hd h0 hM
    rw [List.drop_eq_nil_of_le (by omega)] at hM
    have hab : a = b := by cases hM; rfl
    subst hab
    refine Ev.step (f := fun _ => some a) (fun k => ?_) (Ev.now a)
    simp only [laws_heldIntSS.l0]
    rw [if_neg (by omega)]
  | succ d ih =>
    intro i a hd h0 hM
    have h : i < Y.length := by omega
    rw [List.drop_eq_getElem_cons h] at hM
    cases hM with
    | cons _ _ _ _ n h1 h2 h3 h4 h5 =>
      refine Ev.step (f := fun k => (laws_heldIntS.f k Y[i] a).bind fun t => if t < 0 then some (-1) else laws_heldIntSS.l0 k Y t ((i + 1 : Nat) : Int)) (fun k => ?_) (Ev.bind (heldIntS_ev Y[i] a n h1 h2 h0 h3 h4) ?_)
      · simp only [laws_heldIntSS.l0]
        rw [if_pos (by omega), if_pos (by omega), rdL_nat Y i h, wrap_id (by omega) (by omega)]
        rfl
      · simp only [if_neg (show ¬ a + (n : Int) < 0 by omega)]
        exact ih (i + 1) _ (by omega) (by omega) h5
theorem heldIntSS_ev (Y : List (List Int)) (a b : Int) (hl : Y.length ≤ 16777216) (h0 : 0 < a) (hM : Marked Y a b) : Ev (fun k => laws_heldIntSS.f k Y a) b :=
  heldIntSS_l0 Y b hl Y.length 0 a (by omega) h0 hM
theorem sumLen_le (n : Nat) : ∀ X : List (List Int), (∀ x ∈ X, x.length ≤ n) → sumLen X ≤ n * X.length
  | [], _ => by simp [sumLen]
  | x :: X, h => by
    have hs : sumLen (x :: X) = x.length + sumLen X := by simp [sumLen]
    have h1 := sumLen_le n X fun y hy => h y (by simp [hy])
    have h2 := h x (by simp)
    rw [hs, List.length_cons, Nat.mul_add]
    omega

theorem FnExactReduceRows : ∀ (m : List (List Int)) (c : Int), m.length ≤ maxLen → (∀ r ∈ m, r.length ≤ maxLen ∧ ∀ x ∈ r, (Lit.int .i64 x).wf = true) → (Lit.int .i64 c).wf = true → ∃ k, laws_FnExactReduceRows.f k m c = some true := by
  intro m c hlm hw _
  have hm : ∀ r ∈ m, r.length ≤ maxLen := fun r hr => (hw r hr).1
  refine Ev.rounds ?_
  unfold laws_FnExactReduceRows.f
  obtain ⟨s, hs, hs'⟩ := szSS_ev m hlm hm
  refine Ev.bind hs ?_
  by_cases cs : s < 0
  · simp only [if_pos cs]; exact Ev.now true
  simp only [if_neg cs]
  have hsum := hs' (by omega)
  have b1 : m.length ≤ 1048576 := by omega
  have b2 : ∀ r ∈ m, r.length ≤ 1048576 := fun r hr => by have := len_le_sum m r hr; omega
  have b3 : ∀ r ∈ m, r.length ≤ 16777216 := fun r hr => by have := b2 r hr; omega
  obtain ⟨R, hI, hS, hR1, hR2, _⟩ := rr_both m c (by omega) b3
  have hR3 : ∀ x ∈ R, x.length ≤ 16777216 := fun x hx => by have := hR2 x hx; omega
  have hR4 := sumLen_le 1000 R hR2
  obtain ⟨X, _, hX, hXe⟩ := markIntSS_ev m 1 b3 (by omega) (by omega)
  obtain ⟨G, hGl, hG, hGe⟩ := markIntSS_ev R 1 hR3 (by omega) (by omega)
  have hH := heldIntSS_ev G 1 _ (by omega) (by omega) hG
  have hE := eqIntSS_self R (by omega) hR3
  have hT := toIntSS_ev m b1 b2
  refine Ev.bind hT ?_
  refine Ev.bind hS ?_
  refine Ev.bind hT ?_
  refine Ev.bind hI ?_
  refine Ev.bind hE ?_
  simp only [if_true]
  refine Ev.bind hT ?_
  refine Ev.bind (eqIntSS_self m (by omega) b3) ?_
  simp only [if_true]
  refine Ev.bind hXe ?_
  simp only [if_neg (show ¬ (1 : Int) + (sumLen m : Int) < 0 by omega)]
  refine Ev.bind hE ?_
  simp only [if_true]
  refine Ev.bind hGe ?_
  dsimp only
  refine Ev.bind hH ?_
  simp only [if_neg (show ¬ (1 : Int) + (sumLen R : Int) < 0 by omega), if_true]
  refine Ev.bind hT ?_
  refine Ev.bind hI ?_
  refine Ev.bind hE ?_
  simp only [if_true]
  refine Ev.bind hH ?_
  simp only [if_neg (show ¬ (1 : Int) + (sumLen R : Int) < 0 by omega), if_true]
  exact Ev.now true

end Go.Proofs.Ytojkepidkmkmpaa.Pure
