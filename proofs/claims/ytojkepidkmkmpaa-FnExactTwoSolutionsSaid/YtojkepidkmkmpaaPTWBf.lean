/-
  Goes on where the text before it ends.
  Conditions: none beside the given statement's own.
-/
import Derived.Deep.Matrix
import Derived.ProofKit
import Derived.OpenShut
import Derived.Test.YtojkepidkmkmpaaRows
import Derived.WalkKit
import Derived.ShutString
import Derived.ChangeOld
import Derived.Below
import Derived.SizedLaws
import Derived.Test.YtojkepidkmkmpaaPTWBe
set_option linter.unusedVariables false
set_option linter.unusedSimpArgs false
section
set_option linter.unusedSimpArgs false
set_option linter.unusedVariables false
namespace Go.Proofs.Ytojkepidkmkmpaa.Pure
open Go.RowKit Go.Proofs.Ytojkepidkmkmpaa.PFnExactTwoSolutions Go.Proofs.YtojkepidkmkmpaaW.PrintWords Go.Proofs.YtojkepidkmkmpaaW.PrintLast Go.Proofs.YtojkepidkmkmpaaW.PrintMore Go.Proofs.YtojkepidkmkmpaaAlg
theorem wrap_id {x : Int} (h1 : -9223372036854775808 ≤ x) (h2 : x < 9223372036854775808) : wrap64 x = x := by unfold wrap64; omega
theorem rd_nat (l : List Int) (i : Nat) (h : i < l.length) : rd l (i : Int) = l[i] := by
 unfold rd; rw [Int.toNat_natCast, List.getD_eq_getElem?_getD, List.getElem?_eq_getElem h]; rfl
theorem set_take (l x : List Int) (i : Nat) (h : i < l.length) (hx : x.length = l.length) (ht : x.take i = l.take i) : (x.set i l[i]).take (i + 1) = l.take (i + 1) := by
 apply List.ext_getElem?
 intro j
 simp only [List.getElem?_take, List.getElem?_set]
 have hj : (x.take i)[j]? = (l.take i)[j]? := by rw [ht]
 simp only [List.getElem?_take] at hj
 by_cases h1 : j < i + 1
 ·rw [if_pos h1, if_pos h1]
  by_cases h2 : i = j
  ·subst h2; rw [if_pos rfl, if_pos (by omega), List.getElem?_eq_getElem h]
  ·rw [if_neg h2]; rw [if_pos (by omega), if_pos (by omega)] at hj; exact hj
 ·rw [if_neg h1, if_neg h1]
theorem drop_eq_cons (l : List Int) (i : Nat) (h : i < l.length) : l.drop i = l[i] :: l.drop (i + 1) := List.drop_eq_getElem_cons h
theorem cons_iff {a b : Int} (e : a = b) (l x : List Int) : (a :: l = b :: x) ↔ l = x := by
 rw [e]
 exact ⟨fun h => (List.cons.inj h).2, fun h => by rw [h]⟩
theorem take_full (l x : List Int) (i : Nat) (hi : l.length ≤ i) (hx : x.length = l.length) (ht : x.take i = l.take i) : x = l := by
 rwa [List.take_of_length_le (by omega), List.take_of_length_le hi] at ht
theorem toIntS_l0 (l : List Int) (hl : l.length ≤ 1048576) (d : Nat) : ∀ (i : Nat) (x : List Int), l.length - i = d → i ≤ l.length → x.length = l.length → x.take i = l.take i → Ev (fun k => laws_toIntS.l0 k l x (i : Int)) l := by
 induction d with
|zero =>
  intro i x hd hi hx ht
  obtain rfl := take_full l x i (by omega) hx ht
  refine Ev.step (f := fun _ => some x) (fun k => ?_) (Ev.now x)
  simp only [laws_toIntS.l0]
  rw [if_neg (by omega)]
|succ d ih =>
  intro i x hd hi hx ht
  have h : i < l.length := by omega
  refine Ev.step (f := fun k => laws_toIntS.l0 k l (x.set i l[i]) ((i + 1 : Nat) : Int)) (fun k => ?_) (ih (i + 1) _ (by omega) (by omega) (by simpa using hx) (set_take l x i h hx ht))
  simp only [laws_toIntS.l0]
  rw [if_pos (by omega), if_pos (by omega), if_pos (by omega), rd_nat l i h, wrap_id (by omega) (by omega), Int.toNat_natCast]
  rfl
theorem toIntS_ev (l : List Int) (hl : l.length ≤ 1048576) : Ev (fun k => laws_toIntS.f k l) l := by
 refine Ev.congr (f := fun k => laws_toIntS.l0 k l (List.replicate l.length 0) ((0 : Nat) : Int)) (fun k => ?_) (toIntS_l0 l hl l.length 0 _ (by omega) (by omega) (by simp) (by simp))
 unfold laws_toIntS.f
 rw [if_pos (by omega), Int.toNat_natCast, if_pos (by omega)]
 rfl
theorem eqIntS_l0 (l x : List Int) (hl : l.length ≤ 16777216) (hx : x.length = l.length) (d : Nat) : ∀ (i : Nat), l.length - i = d → i ≤ l.length → Ev (fun k => laws_eqIntS.l0 k l x (i : Int)) (decide (l.drop i = x.drop i)) := by
 induction d with
|zero =>
  intro i hd hi
  rw [List.drop_eq_nil_of_le (by omega), List.drop_eq_nil_of_le (by omega), decide_eq_true rfl]
  refine Ev.step (f := fun _ => some true) (fun k => ?_) (Ev.now true)
  simp only [laws_eqIntS.l0]
  rw [if_neg (by omega)]
|succ d ih =>
  intro i hd hi
  have h : i < l.length := by omega
  have h' : i < x.length := by omega
  rw [drop_eq_cons l i h, drop_eq_cons x i h']
  by_cases e : l[i] = x[i]
  ·rw [decide_eq_decide.2 (cons_iff e _ _)]
   refine Ev.step (f := fun k => laws_eqIntS.l0 k l x ((i + 1 : Nat) : Int)) (fun k => ?_) (ih (i + 1) (by omega) (by omega))
   simp only [laws_eqIntS.l0]
   rw [if_pos (by omega), if_pos (by omega), if_pos (by omega), rd_nat l i h, rd_nat x i h', if_pos e, wrap_id (by omega) (by omega)]
   rfl
  ·rw [decide_eq_false fun h => e (List.cons.inj h).1]
   refine Ev.step (f := fun _ => some false) (fun k => ?_) (Ev.now false)
   simp only [laws_eqIntS.l0]
   rw [if_pos (by omega), if_pos (by omega), if_pos (by omega), rd_nat l i h, rd_nat x i h', if_neg e]
theorem eqIntS_ev (l x : List Int) (hl : l.length ≤ 16777216) : Ev (fun k => laws_eqIntS.f k l x) (decide (l = x)) := by
 by_cases e : l.length = x.length
 ·refine Ev.congr (f := fun k => laws_eqIntS.l0 k l x ((0 : Nat) : Int)) (fun k => ?_) (by simpa using eqIntS_l0 l x hl e.symm l.length 0 (by omega) (by omega))
  unfold laws_eqIntS.f
  rw [if_pos (by omega)]
  rfl
 ·rw [decide_eq_false (fun h => e (by rw [h]))]
  refine Ev.congr (f := fun _ => some false) (fun k => ?_) (Ev.now false)
  unfold laws_eqIntS.f
  rw [if_neg (by omega)]
theorem eqIntS_self (l : List Int) (hl : l.length ≤ 16777216) : Ev (fun k => laws_eqIntS.f k l l) true := by
 simpa using eqIntS_ev l l hl
theorem l1In_eq (a b c : Int) : spec_l1In.f a b c = some (decide (b ≤ a ∧ a ≤ c)) := by
 unfold spec_l1In.f
 by_cases h : a ≥ b
 ·rw [if_pos h]; congr 1; by_cases h2 : a ≤ c <;> simp [h2] <;> omega
 ·rw [if_neg h]; congr 1; simp; omega
theorem InRange_eq (a b c : Int) : impl_InRange.f a b c = some (decide (b ≤ a ∧ a ≤ c)) := by
 unfold impl_InRange.f
 by_cases h : b ≤ a
 ·rw [if_pos h]; congr 1; by_cases h2 : a ≤ c <;> simp [h2] <;> omega
 ·rw [if_neg h]; congr 1; simp; omega
theorem rdL_nat (l : List (List Int)) (i : Nat) (h : i < l.length) : rd_L1 l (i : Int) = l[i] := by
 unfold rd_L1
 rw [Int.toNat_natCast, List.getD_eq_getElem?_getD, List.getElem?_eq_getElem h]; rfl
theorem drop_consL (l : List (List Int)) (i : Nat) (h : i < l.length) : l.drop i = l[i] :: l.drop (i + 1) := List.drop_eq_getElem_cons h
def sumLen : List (List Int) → Nat
 | [] => 0
 | r :: l => r.length + sumLen l
theorem len_le_sum (l : List (List Int)) : ∀ r ∈ l, r.length ≤ sumLen l := by
 induction l with
 | nil => intro r h; cases h
 | cons a l ih =>
  intro r h
  simp only [sumLen]
  rcases List.mem_cons.1 h with rfl | h
  ·omega
  ·have := ih r h; omega
theorem sz_eq (r : List Int) (a : Int) (hr : r.length ≤ maxLen) (h0 : 0 ≤ a) (h1 : a ≤ 1048576) : laws_szIntS.f r a = some (if a - r.length < 0 then -1 else a - r.length) := by
 unfold laws_szIntS.f
 unfold maxLen at hr
 rw [wrap_id (by omega) (by omega)]
 split <;> rfl
theorem szSS_l0 (l : List (List Int)) (hm : ∀ r ∈ l, r.length ≤ maxLen) (hl : l.length ≤ 1048576) (d : Nat) : ∀ (i : Nat) (a : Int), l.length - i = d → 0 ≤ a → a ≤ 1048576 → ∃ r, Ev (fun k => laws_szIntSS.l0 k l a (i : Int)) r ∧ (0 ≤ r → r + sumLen (l.drop i) = a) := by
 induction d with
|zero =>
  intro i a hd h0 h1
  refine ⟨a, Ev.step (f := fun _ => some a) (fun k => ?_) (Ev.now a), fun _ => by rw [List.drop_eq_nil_of_le (by omega)];simp [sumLen]⟩
  simp only [laws_szIntSS.l0]
  rw [if_neg (by omega)]
|succ d ih =>
  intro i a hd h0 h1
  have h : i < l.length := by omega
  have hs := sz_eq l[i] a (hm _ (List.getElem_mem h)) h0 h1
  by_cases c : a - l[i].length < 0
  ·rw [if_pos c] at hs
   refine ⟨-1, Ev.step (f := fun _ => some (-1)) (fun k => ?_) (Ev.now (-1)), fun h => by omega⟩
   simp only [laws_szIntSS.l0]
   rw [if_pos (by omega), if_pos (by omega), rdL_nat l i h, hs]
   rfl
  ·rw [if_neg c] at hs
   obtain ⟨r, hr, hr'⟩ := ih (i + 1) (a - l[i].length) (by omega) (by omega) (by omega)
   refine ⟨r, Ev.step (f := fun k => laws_szIntSS.l0 k l (a - l[i].length) ((i + 1 : Nat) : Int)) (fun k => ?_) hr, fun h0 => ?_⟩
   ·simp only [laws_szIntSS.l0]
    rw [if_pos (by omega), if_pos (by omega), rdL_nat l i h, hs]
    simp only [Option.bind_some]
    rw [if_neg (by omega), wrap_id (by omega) (by omega)]
    rfl
   ·have := hr' h0
    rw [drop_consL l i h]
    simp only [sumLen]
    omega
theorem szSS_ev (l : List (List Int)) (hlm : l.length ≤ maxLen) (hm : ∀ r ∈ l, r.length ≤ maxLen) : ∃ r, Ev (fun k => laws_szIntSS.f k l 1048576) r ∧ (0 ≤ r → l.length + sumLen l ≤ 1048576) := by
 unfold laws_szIntSS.f
 have hw : wrap64 (1048576 - (l.length : Int)) = 1048576 - (l.length : Int) := by
  unfold maxLen at hlm
  exact wrap_id (by omega) (by omega)
 by_cases c : 1048576 - (l.length : Int) < 0
 ·refine ⟨-1, ?_, fun h => by omega⟩
  simp only [hw, if_pos c]
  exact Ev.now _
 ·obtain ⟨r, hr, hr'⟩ := szSS_l0 l hm (by omega) l.length 0 (1048576 - (l.length : Int)) (by omega) (by omega) (by omega)
  refine ⟨r, ?_, fun h => by have := hr' h;simp at this;omega⟩
  simp only [hw, if_neg c]
  exact hr
theorem set_takeL (l x : List (List Int)) (i : Nat) (h : i < l.length) (hx : x.length = l.length) (ht : x.take i = l.take i) : (x.set i l[i]).take (i + 1) = l.take (i + 1) := by
 apply List.ext_getElem?
 intro j
 simp only [List.getElem?_take, List.getElem?_set]
 have hj : (x.take i)[j]? = (l.take i)[j]? := by rw [ht]
 simp only [List.getElem?_take] at hj
 by_cases h1 : j < i + 1
 ·rw [if_pos h1, if_pos h1]
  by_cases h2 : i = j
  ·subst h2; rw [if_pos rfl, if_pos (by omega), List.getElem?_eq_getElem h]
  ·rw [if_neg h2]; rw [if_pos (by omega), if_pos (by omega)] at hj; exact hj
 ·rw [if_neg h1, if_neg h1]
theorem toIntSS_l0 (l : List (List Int)) (hl : l.length ≤ 1048576) (hm : ∀ r ∈ l, r.length ≤ 1048576) (d : Nat) : ∀ (i : Nat) (x : List (List Int)), l.length - i = d → i ≤ l.length → x.length = l.length → x.take i = l.take i → Ev (fun k => laws_toIntSS.l0 k l x (i : Int)) l := by
 induction d with
|zero =>
  intro i x hd hi hx ht
  have e : x = l := by rwa [List.take_of_length_le (by omega), List.take_of_length_le (by omega)] at ht
  subst e
  refine Ev.step (f := fun _ => some x) (fun k => ?_) (Ev.now x)
  simp only [laws_toIntSS.l0]
  rw [if_neg (by omega)]
|succ d ih =>
  intro i x hd hi hx ht
  have h : i < l.length := by omega
  refine Ev.step (f := fun k => (laws_toIntS.f k l[i]).bind fun t => if (i : Int) < (x.length : Int) then laws_toIntSS.l0 k l (x.set i t) ((i + 1 : Nat) : Int) else none) (fun k => ?_) (Ev.bind (toIntS_ev l[i] (hm _ (List.getElem_mem h))) ?_)
  ·simp only [laws_toIntSS.l0]
   rw [if_pos (by omega), if_pos (by omega), rdL_nat l i h, wrap_id (by omega) (by omega), Int.toNat_natCast]
   rfl
  ·simp only [if_pos (show (i : Int) < (x.length : Int) by omega)]
   exact ih (i + 1) _ (by omega) (by omega) (by simpa using hx) (set_takeL l x i h hx ht)
theorem toIntSS_ev (l : List (List Int)) (hl : l.length ≤ 1048576) (hm : ∀ r ∈ l, r.length ≤ 1048576) : Ev (fun k => laws_toIntSS.f k l) l := by
 refine Ev.congr (f := fun k => laws_toIntSS.l0 k l (List.replicate l.length []) ((0 : Nat) : Int)) (fun k => ?_) (toIntSS_l0 l hl hm l.length 0 _ (by omega) (by omega) (by simp) (by simp))
 unfold laws_toIntSS.f
 rw [if_pos (by omega), Int.toNat_natCast, if_pos (by omega)]
 rfl
theorem eqIntSS_l0 (l : List (List Int)) (hl : l.length ≤ 16777216) (hm : ∀ r ∈ l, r.length ≤ 16777216) (d : Nat) : ∀ (i : Nat), l.length - i = d → Ev (fun k => laws_eqIntSS.l0 k l l (i : Int)) true := by
 induction d with
|zero =>
  intro i hd
  refine Ev.step (f := fun _ => some true) (fun k => ?_) (Ev.now true)
  simp only [laws_eqIntSS.l0]
  rw [if_neg (by omega)]
|succ d ih =>
  intro i hd
  have h : i < l.length := by omega
  refine Ev.step (f := fun k => (laws_eqIntS.f k l[i] l[i]).bind fun t => if t = true then laws_eqIntSS.l0 k l l ((i + 1 : Nat) : Int) else some false) (fun k => ?_) (Ev.bind (eqIntS_self l[i] (hm _ (List.getElem_mem h))) ?_)
  ·simp only [laws_eqIntSS.l0]
   rw [if_pos (by omega), if_pos (by omega), if_pos (by omega), rdL_nat l i h, wrap_id (by omega) (by omega)]
   rfl
  ·simp only [if_true]
   exact ih (i + 1) (by omega)
theorem eqIntSS_self (l : List (List Int)) (hl : l.length ≤ 16777216) (hm : ∀ r ∈ l, r.length ≤ 16777216) : Ev (fun k => laws_eqIntSS.f k l l) true := by
 refine Ev.congr (f := fun k => laws_eqIntSS.l0 k l l ((0 : Nat) : Int)) (fun k => ?_) (eqIntSS_l0 l hl hm l.length 0 (by omega))
 unfold laws_eqIntSS.f
 rw [if_pos rfl]
 rfl
def rowOk (c : Int) (r : List Int) : Bool := decide ((r.length : Int) = c) && r.all fun x => decide (-2 ≤ x ∧ x ≤ 2)
def isMat (l : List (List Int)) (c : Int) : Bool := decide (1 ≤ c ∧ c ≤ 6) && decide (l.length ≤ 12) && l.all (rowOk c)
theorem allIn_l0 (l : List Int) (hl : l.length ≤ 16777216) (a b : Int) (d : Nat) : ∀ (i : Nat), l.length - i = d → Ev (fun k => impl_allIn.l0 k a b l (l.length : Int) (i : Int)) ((l.drop i).all fun x => decide (a ≤ x ∧ x ≤ b)) := by
 induction d with
|zero =>
  intro i hd
  rw [List.drop_eq_nil_of_le (by omega)]
  refine Ev.step (f := fun _ => some true) (fun k => ?_) (Ev.now true)
  simp only [impl_allIn.l0]
  rw [if_neg (by omega)]
|succ d ih =>
  intro i hd
  have h : i < l.length := by omega
  rw [drop_eq_cons l i h, List.all_cons]
  by_cases c : a ≤ l[i] ∧ l[i] ≤ b
  ·rw [decide_eq_true c, Bool.true_and]
   refine Ev.step (f := fun k => impl_allIn.l0 k a b l (l.length : Int) ((i + 1 : Nat) : Int)) (fun k => ?_) (ih (i + 1) (by omega))
   simp only [impl_allIn.l0]
   rw [if_pos (by omega), if_pos (by omega), if_pos (by omega), rd_nat l i h, InRange_eq, decide_eq_true c]
   simp only [Option.bind_some, if_true]
   rw [wrap_id (by omega) (by omega)]
   rfl
  ·rw [decide_eq_false c, Bool.false_and]
   refine Ev.step (f := fun _ => some false) (fun k => ?_) (Ev.now false)
   simp only [impl_allIn.l0]
   rw [if_pos (by omega), if_pos (by omega), if_pos (by omega), rd_nat l i h, InRange_eq, decide_eq_false c]
   simp only [Option.bind_some, Bool.false_eq_true, if_false]
theorem allIn_ev (l : List Int) (hl : l.length ≤ 16777216) (a b : Int) : Ev (fun k => impl_allIn.f k l a b) (l.all fun x => decide (a ≤ x ∧ x ≤ b)) := by
 have := allIn_l0 l hl a b l.length 0 (by omega)
 exact this
theorem implMat_l0 (l : List (List Int)) (hl : l.length ≤ 16777216) (hm : ∀ r ∈ l, r.length ≤ 16777216) (c : Int) (d : Nat) : ∀ (i : Nat), l.length - i = d → Ev (fun k => impl_IsMatrix.l0 k c l (l.length : Int) (i : Int)) ((l.drop i).all (rowOk c)) := by
 induction d with
|zero =>
  intro i hd
  rw [List.drop_eq_nil_of_le (by omega)]
  refine Ev.step (f := fun _ => some true) (fun k => ?_) (Ev.now true)
  simp only [impl_IsMatrix.l0]
  rw [if_neg (by omega)]
|succ d ih =>
  intro i hd
  have h : i < l.length := by omega
  rw [drop_consL l i h, List.all_cons]
  by_cases c1 : (l[i].length : Int) = c
  ·have e : rowOk c l[i] = l[i].all fun x => decide (-2 ≤ x ∧ x ≤ 2) := by unfold rowOk;rw [decide_eq_true c1, Bool.true_and]
   rw [e]
   refine Ev.step (f := fun k => (impl_allIn.f k l[i] (-2) 2).bind fun t => if t = true then impl_IsMatrix.l0 k c l (l.length : Int) ((i + 1 : Nat) : Int) else some false) (fun k => ?_) (Ev.bind (allIn_ev l[i] (hm _ (List.getElem_mem h)) (-2) 2) ?_)
   ·simp only [impl_IsMatrix.l0]
    rw [if_pos (by omega), if_pos (by omega), if_pos (by omega), rdL_nat l i h, if_pos c1, wrap_id (by omega) (by omega)]
    rfl
   ·cases l[i].all fun x => decide (-2 ≤ x ∧ x ≤ 2) with
   |true => simp only [if_true, Bool.true_and];exact ih (i + 1) (by omega)
   |false => simp only [Bool.false_eq_true, if_false, Bool.false_and];exact Ev.now _
  ·have e : rowOk c l[i] = false := by unfold rowOk;rw [decide_eq_false c1, Bool.false_and]
   rw [e, Bool.false_and]
   refine Ev.step (f := fun _ => some false) (fun k => ?_) (Ev.now false)
   simp only [impl_IsMatrix.l0]
   rw [if_pos (by omega), if_pos (by omega), if_pos (by omega), rdL_nat l i h, if_neg c1]
theorem implMat_ev (l : List (List Int)) (hl : l.length ≤ 16777216) (hm : ∀ r ∈ l, r.length ≤ 16777216) (c : Int) : Ev (fun k => impl_IsMatrix.f k l c) (isMat l c) := by
 unfold impl_IsMatrix.f isMat
 simp only [InRange_eq, Option.bind_some]
 by_cases c1 : 1 ≤ c ∧ c ≤ 6
 ·simp only [decide_eq_true c1, if_true, Bool.true_and]
  by_cases c2 : l.length ≤ 12
  ·rw [decide_eq_true c2, Bool.true_and, decide_eq_false (show ¬ ((l.length : Int) > 12) by omega)]
   refine Ev.step (fun k => impl_IsMatrix.j0.eq_2 _ _ _ _) ?_
   simp only [Bool.false_eq_true, if_false]
   exact implMat_l0 l hl hm c l.length 0 (by omega)
  ·rw [decide_eq_false c2, Bool.false_and, decide_eq_true (show (l.length : Int) > 12 by omega)]
   refine Ev.step (fun k => impl_IsMatrix.j0.eq_2 _ _ _ _) ?_
   simp only [if_true]
   exact Ev.now _
 ·simp only [decide_eq_false c1, Bool.false_eq_true, if_false, Bool.false_and]
  refine Ev.step (fun k => impl_IsMatrix.j0.eq_2 _ _ _ _) ?_
  simp only [if_true]
  exact Ev.now _
theorem specMat_l1 (l : List (List Int)) (hl : l.length ≤ 16777216) (c : Int) (i : Nat) (h : i < l.length) (hc : (l[i].length : Int) = c) (hr : l[i].length ≤ 16777216) (R : Bool) (hR : Ev (fun k => spec_IsMatrix.l0 k l c ((i + 1 : Nat) : Int)) R) (d : Nat) : ∀ j : Nat, l[i].length - j = d → Ev (fun k => spec_IsMatrix.l1 k l c (i : Int) (j : Int)) (((l[i].drop j).all fun x => decide (-2 ≤ x ∧ x ≤ 2)) && R) := by
 induction d with
|zero =>
  intro j hd
  rw [List.drop_eq_nil_of_le (by omega)]
  refine Ev.step (f := fun k => spec_IsMatrix.l0 k l c ((i + 1 : Nat) : Int)) (fun k => ?_) (by simpa using hR)
  simp only [spec_IsMatrix.l1]
  rw [if_neg (by omega), wrap_id (by omega) (by omega)]
  rfl
|succ d ih =>
  intro j hd
  have hj : j < l[i].length := by omega
  rw [drop_eq_cons l[i] j hj, List.all_cons]
  by_cases c1 : -2 ≤ l[i][j] ∧ l[i][j] ≤ 2
  ·rw [decide_eq_true c1, Bool.true_and]
   refine Ev.step (f := fun k => spec_IsMatrix.l1 k l c (i : Int) ((j + 1 : Nat) : Int)) (fun k => ?_) (ih (j + 1) (by omega))
   simp only [spec_IsMatrix.l1]
   rw [if_pos (by omega), if_pos (by omega), if_pos (by omega), if_pos (by omega), rdL_nat l i h, if_pos (by omega), rd_nat _ j hj, l1In_eq, decide_eq_true c1]
   simp only [Option.bind_some, if_true]
   rw [wrap_id (by omega) (by omega)]
   rfl
  ·rw [decide_eq_false c1, Bool.false_and, Bool.false_and]
   refine Ev.step (f := fun _ => some false) (fun k => ?_) (Ev.now false)
   simp only [spec_IsMatrix.l1]
   rw [if_pos (by omega), if_pos (by omega), if_pos (by omega), if_pos (by omega), rdL_nat l i h, if_pos (by omega), rd_nat _ j hj, l1In_eq, decide_eq_false c1]
   simp only [Option.bind_some, Bool.false_eq_true, if_false]
theorem specMat_l0 (l : List (List Int)) (hl : l.length ≤ 16777216) (hm : ∀ r ∈ l, r.length ≤ 16777216) (c : Int) (d : Nat) : ∀ (i : Nat), l.length - i = d → Ev (fun k => spec_IsMatrix.l0 k l c (i : Int)) ((l.drop i).all (rowOk c)) := by
 induction d with
|zero =>
  intro i hd
  rw [List.drop_eq_nil_of_le (by omega)]
  refine Ev.step (f := fun _ => some true) (fun k => ?_) (Ev.now true)
  simp only [spec_IsMatrix.l0]
  rw [if_neg (by omega)]
|succ d ih =>
  intro i hd
  have h : i < l.length := by omega
  rw [drop_consL l i h, List.all_cons]
  by_cases c1 : (l[i].length : Int) = c
  ·have e : rowOk c l[i] = l[i].all fun x => decide (-2 ≤ x ∧ x ≤ 2) := by unfold rowOk;rw [decide_eq_true c1, Bool.true_and]
   rw [e]
   refine Ev.step (f := fun k => spec_IsMatrix.l1 k l c (i : Int) ((0 : Nat) : Int)) (fun k => ?_) (specMat_l1 l hl c i h c1 (hm _ (List.getElem_mem h)) _ (ih (i + 1) (by omega)) l[i].length 0 (by omega))
   simp only [spec_IsMatrix.l0]
   rw [if_pos (by omega), if_pos (by omega), rdL_nat l i h, if_pos c1]
   rfl
  ·have e : rowOk c l[i] = false := by unfold rowOk;rw [decide_eq_false c1, Bool.false_and]
   rw [e, Bool.false_and]
   refine Ev.step (f := fun _ => some false) (fun k => ?_) (Ev.now false)
   simp only [spec_IsMatrix.l0]
   rw [if_pos (by omega), if_pos (by omega), rdL_nat l i h, if_neg c1]
theorem specMat_ev (l : List (List Int)) (hl : l.length ≤ 16777216) (hm : ∀ r ∈ l, r.length ≤ 16777216) (c : Int) : Ev (fun k => spec_IsMatrix.f k l c) (isMat l c) := by
 unfold spec_IsMatrix.f isMat
 simp only [l1In_eq, Option.bind_some]
 by_cases c1 : 1 ≤ c ∧ c ≤ 6
 ·simp only [decide_eq_true c1, if_true, Bool.true_and]
  by_cases c2 : l.length ≤ 12
  ·rw [decide_eq_true c2, Bool.true_and, decide_eq_false (show ¬ ((l.length : Int) > 12) by omega)]
   refine Ev.step (fun k => spec_IsMatrix.j0.eq_2 _ _ _ _) ?_
   simp only [Bool.false_eq_true, if_false]
   exact specMat_l0 l hl hm c l.length 0 (by omega)
  ·rw [decide_eq_false c2, Bool.false_and, decide_eq_true (show (l.length : Int) > 12 by omega)]
   refine Ev.step (fun k => spec_IsMatrix.j0.eq_2 _ _ _ _) ?_
   simp only [if_true]
   exact Ev.now _
 ·simp only [decide_eq_false c1, Bool.false_eq_true, if_false, Bool.false_and]
  refine Ev.step (fun k => spec_IsMatrix.j0.eq_2 _ _ _ _) ?_
  simp only [if_true]
  exact Ev.now _
def isSys (l : List (List Int)) (v : List Int) (c : Int) : Bool := isMat l c && decide (v.length = l.length) && v.all fun x => decide (-1000 ≤ x ∧ x ≤ 1000)
theorem implSys_ev (l : List (List Int)) (v : List Int) (hl : l.length ≤ 16777216) (hm : ∀ r ∈ l, r.length ≤ 16777216) (hv : v.length ≤ 16777216) (c : Int) : Ev (fun k => impl_IsSystem.f k l v c) (isSys l v c) := by
 unfold impl_IsSystem.f isSys
 refine Ev.bind (implMat_ev l hl hm c) ?_
 cases isMat l c with
|false => simp only [Bool.false_eq_true, if_false, Bool.false_and];exact Ev.now _
|true =>
  simp only [if_true, Bool.true_and]
  by_cases c1 : v.length = l.length
  ·simp only [if_pos (show (v.length : Int) = (l.length : Int) by omega), decide_eq_true c1, Bool.true_and]
   exact Ev.bind (allIn_ev v hv (-1000) 1000) (Ev.now _)
  ·simp only [if_neg (show ¬ ((v.length : Int) = (l.length : Int)) by omega), decide_eq_false c1, Bool.false_and]
   exact Ev.now _
theorem specSys_l0 (l : List (List Int)) (v : List Int) (hl : l.length ≤ 16777216) (hm : ∀ r ∈ l, r.length ≤ 16777216) (hv : v.length ≤ 16777216) (c : Int) (d : Nat) : ∀ (i : Nat), v.length - i = d → Ev (fun k => spec_IsSystem.l0 k l v c (i : Int)) (((v.drop i).all fun x => decide (-1000 ≤ x ∧ x ≤ 1000)) && (isMat l c && decide (v.length = l.length))) := by
 induction d with
|zero =>
  intro i hd
  rw [List.drop_eq_nil_of_le (by omega), List.all_nil, Bool.true_and]
  refine Ev.step (f := fun k => (spec_IsMatrix.f k l c).bind fun t => if t = true then some ((v.length : Int) == (l.length : Int)) else some false) (fun k => ?_) (Ev.bind (specMat_ev l hl hm c) ?_)
  ·simp only [spec_IsSystem.l0]
   rw [if_neg (by omega)]
  ·cases isMat l c with
  |false => simp only [Bool.false_eq_true, if_false, Bool.false_and];exact Ev.now _
  |true =>
    simp only [if_true, Bool.true_and]
    have e : ((v.length : Int) == (l.length : Int)) = decide (v.length = l.length) := by
     rw [Bool.eq_iff_iff, beq_iff_eq, decide_eq_true_iff]
     omega
    rw [e]
    exact Ev.now _
|succ d ih =>
  intro i hd
  have h : i < v.length := by omega
  rw [drop_eq_cons v i h, List.all_cons]
  by_cases c1 : -1000 ≤ v[i] ∧ v[i] ≤ 1000
  ·rw [decide_eq_true c1, Bool.true_and]
   refine Ev.step (f := fun k => spec_IsSystem.l0 k l v c ((i + 1 : Nat) : Int)) (fun k => ?_) (ih (i + 1) (by omega))
   simp only [spec_IsSystem.l0]
   rw [if_pos (by omega), if_pos (by omega), rd_nat v i h, l1In_eq, decide_eq_true c1]
   simp only [Option.bind_some, if_true]
   rw [wrap_id (by omega) (by omega)]
   rfl
  ·rw [decide_eq_false c1, Bool.false_and, Bool.false_and]
   refine Ev.step (f := fun _ => some false) (fun k => ?_) (Ev.now false)
   simp only [spec_IsSystem.l0]
   rw [if_pos (by omega), if_pos (by omega), rd_nat v i h, l1In_eq, decide_eq_false c1]
   simp only [Option.bind_some, Bool.false_eq_true, if_false]
theorem specSys_ev (l : List (List Int)) (v : List Int) (hl : l.length ≤ 16777216) (hm : ∀ r ∈ l, r.length ≤ 16777216) (hv : v.length ≤ 16777216) (c : Int) : Ev (fun k => spec_IsSystem.f k l v c) (isSys l v c) := by
 have := specSys_l0 l v hl hm hv c v.length 0 (by omega)
 rw [Bool.and_comm] at this
 exact this
theorem impl_gcd_l0 (b : Nat) : ∀ a : Nat, Ev (fun k => impl_gcd.l0 k (a : Int) (b : Int)) ((Nat.gcd a b : Nat) : Int) := by
 induction b using Nat.strongRecOn with
|ind b ih =>
  intro a
  by_cases h : b = 0
  ·subst h
   refine Ev.step (f := fun _ => some (a : Int)) (fun k => ?_) (by simpa using Ev.now (a : Int))
   simp only [impl_gcd.l0]
   rw [if_pos (by omega)]
  ·have hg : Nat.gcd a b = Nat.gcd b (a % b) := by rw [Nat.gcd_comm a b, Nat.gcd_rec b a, Nat.gcd_comm]
   rw [hg]
   refine Ev.step (f := fun k => impl_gcd.l0 k (b : Int) ((a % b : Nat) : Int)) (fun k => ?_) (ih (a % b) (Nat.mod_lt _ (by omega)) b)
   simp only [impl_gcd.l0]
   rw [if_neg (by omega), Int.tmod_eq_emod_of_nonneg (by omega)]
   rfl
theorem spec_l4Gcd_l0 (b : Nat) : ∀ a : Nat, Ev (fun k => spec_l4Gcd.l0 k (a : Int) (b : Int)) ((Nat.gcd a b : Nat) : Int) := by
 induction b using Nat.strongRecOn with
|ind b ih =>
  intro a
  by_cases h : b = 0
  ·subst h
   refine Ev.step (f := fun _ => some (a : Int)) (fun k => ?_) (by simpa using Ev.now (a : Int))
   simp only [spec_l4Gcd.l0]
   rw [if_neg (by omega)]
  ·have hg : Nat.gcd a b = Nat.gcd b (a % b) := by rw [Nat.gcd_comm a b, Nat.gcd_rec b a, Nat.gcd_comm]
   rw [hg]
   refine Ev.step (f := fun k => spec_l4Gcd.l0 k (b : Int) ((a % b : Nat) : Int)) (fun k => ?_) (ih (a % b) (Nat.mod_lt _ (by omega)) b)
   simp only [spec_l4Gcd.l0]
   rw [if_pos (by omega), if_neg (by omega), Int.tmod_eq_emod_of_nonneg (by omega)]
   rfl
theorem gcdI_ev (a b : Int) (ha : -9223372036854775808 < a) (ha' : a < 9223372036854775808) (hb : -9223372036854775808 < b) (hb' : b < 9223372036854775808) : Ev (fun k => impl_gcd.f k a b) ((Int.gcd a b : Nat) : Int) := by
 have h0 : Ev (fun k => impl_gcd.j0 k ((a.natAbs : Nat) : Int) b) ((Int.gcd a b : Nat) : Int) := by
  refine Ev.step (f := fun k => impl_gcd.j1 k ((a.natAbs : Nat) : Int) ((b.natAbs : Nat) : Int)) (fun k => ?_) (Ev.step (fun k => impl_gcd.j1.eq_2 _ _ _) (impl_gcd_l0 b.natAbs a.natAbs))
  simp only [impl_gcd.j0]
  by_cases h : b < 0
  ·rw [if_pos h, wrap_id (by omega) (by omega), show -b = ((b.natAbs : Nat) : Int) by omega]
  ·rw [if_neg h, show (b.natAbs : Int) = b by omega]
 unfold impl_gcd.f
 by_cases h : a < 0
 ·simp only [if_pos h]
  rw [wrap_id (by omega) (by omega), show -a = ((a.natAbs : Nat) : Int) by omega]
  exact h0
 ·simp only [if_neg h]
  rw [show (a.natAbs : Int) = a by omega] at h0
  exact h0
theorem absS (a : Int) (ha : -9223372036854775808 < a) (ha' : a < 9223372036854775808) : spec_Max.f a (wrap64 (-a)) = some ((a.natAbs : Nat) : Int) := by
 unfold spec_Max.f
 rw [wrap_id (by omega) (by omega)]
 by_cases h : -a > a
 ·rw [if_pos h]; congr 1; omega
 ·rw [if_neg h]; congr 1; omega
theorem gcdS_ev (a b : Int) (ha : -9223372036854775808 < a) (ha' : a < 9223372036854775808) (hb : -9223372036854775808 < b) (hb' : b < 9223372036854775808) : Ev (fun k => spec_l4Gcd.f k a b) ((Int.gcd a b : Nat) : Int) := by
 unfold spec_l4Gcd.f
 simp only [absS a ha ha', absS b hb hb', Option.bind_some]
 exact spec_l4Gcd_l0 b.natAbs a.natAbs
def isR (n d : Int) : Bool := decide ((-1000000000 ≤ n ∧ n ≤ 1000000000) ∧ (1 ≤ d ∧ d ≤ 1000000000) ∧ ((Int.gcd n d : Nat) : Int) = 1)
theorem isRI_ev (n d : Int) : Ev (fun k => impl_IsRatio.f k n d) (isR n d) := by
 unfold impl_IsRatio.f isR
 simp only [InRange_eq, Option.bind_some]
 by_cases c1 : -1000000000 ≤ n ∧ n ≤ 1000000000
 ·by_cases c2 : 1 ≤ d ∧ d ≤ 1000000000
  ·simp only [decide_eq_true c1, decide_eq_true c2, if_true]
   refine Ev.bind (gcdI_ev n d (by omega) (by omega) (by omega) (by omega)) ?_
   have e : (((Int.gcd n d : Nat) : Int) == 1) = decide ((-1000000000 ≤ n ∧ n ≤ 1000000000) ∧ (1 ≤ d ∧ d ≤ 1000000000) ∧ ((Int.gcd n d : Nat) : Int) = 1) := by
    rw [Bool.eq_iff_iff, beq_iff_eq, decide_eq_true_iff]
    exact ⟨fun h => ⟨c1, c2, h⟩, fun h => h.2.2⟩
   rw [e]
   exact Ev.now _
  ·simp only [decide_eq_true c1, decide_eq_false c2, if_true, Bool.false_eq_true, if_false]
   rw [decide_eq_false fun h => c2 h.2.1]
   exact Ev.now _
 ·simp only [decide_eq_false c1, Bool.false_eq_true, if_false]
  rw [decide_eq_false fun h => c1 h.1]
  exact Ev.now _
theorem isRS_ev (n d : Int) : Ev (fun k => spec_IsRatio.f k n d) (isR n d) := by
 unfold spec_IsRatio.f isR
 simp only [l1In_eq, Option.bind_some]
 by_cases c1 : -1000000000 ≤ n ∧ n ≤ 1000000000
 ·by_cases c2 : 1 ≤ d ∧ d ≤ 1000000000
  ·simp only [decide_eq_true c1, decide_eq_true c2, if_true]
   refine Ev.bind (gcdS_ev n d (by omega) (by omega) (by omega) (by omega)) ?_
   have e : (((Int.gcd n d : Nat) : Int) == 1) = decide ((-1000000000 ≤ n ∧ n ≤ 1000000000) ∧ (1 ≤ d ∧ d ≤ 1000000000) ∧ ((Int.gcd n d : Nat) : Int) = 1) := by
    rw [Bool.eq_iff_iff, beq_iff_eq, decide_eq_true_iff]
    exact ⟨fun h => ⟨c1, c2, h⟩, fun h => h.2.2⟩
   rw [e]
   exact Ev.now _
  ·simp only [decide_eq_true c1, decide_eq_false c2, if_true, Bool.false_eq_true, if_false]
   rw [decide_eq_false fun h => c2 h.2.1]
   exact Ev.now _
 ·simp only [decide_eq_false c1, Bool.false_eq_true, if_false]
  rw [decide_eq_false fun h => c1 h.1]
  exact Ev.now _
theorem isR_iff (n d : Int) : isR n d = true ↔ (-1000000000 ≤ n ∧ n ≤ 1000000000) ∧ (1 ≤ d ∧ d ≤ 1000000000) ∧ ((Int.gcd n d : Nat) : Int) = 1 := by
 unfold isR
 rw [decide_eq_true_iff]
theorem ev_to {α : Type} {f : Nat → Option α} {a b : α} (h : Ev f a) (e : a = b) : Ev f b := e ▸ h
theorem at0_rd (l : List Int) (i : Nat) : rd l (i : Int) = at0 l i := by
 unfold rd at0
 rw [Int.toNat_natCast]
theorem idx96_l0 (l : List Int) (hl : l.length ≤ 16777216) (d : Nat) : ∀ i : Nat, l.length - i = d → i ≤ ld l → Ev (fun k => slices_IndexFunc_int_int_96.l0 k l (l.length : Int) (i : Int)) (if ld l < l.length then (ld l : Int) else -1) := by
 induction d with
|zero =>
  intro i hd hi
  have := ld_le l
  rw [if_neg (by omega)]
  refine Ev.step (f := fun _ => some (-1)) (fun k => ?_) (Ev.now _)
  simp only [slices_IndexFunc_int_int_96.l0]
  rw [if_neg (by omega)]
|succ d ih =>
  intro i hd hi
  have h : i < l.length := by omega
  by_cases e : at0 l i = 0
  ·have hne : i ≠ ld l := fun e2 => by
    subst e2
    exact ld_ne l h e
   refine Ev.step (f := fun k => slices_IndexFunc_int_int_96.l0 k l (l.length : Int) ((i + 1 : Nat) : Int)) (fun k => ?_) (ih (i + 1) (by omega) (by omega))
   simp only [slices_IndexFunc_int_int_96.l0]
   rw [if_pos (by omega), if_pos (by omega), if_pos (by omega), at0_rd, if_pos e, wrap_id (by omega) (by omega)]
   rfl
  ·have he : ld l = i := ld_eq l i (fun j hj => ld_low l j (by omega)) e
   rw [he, if_pos h]
   refine Ev.step (f := fun _ => some (i : Int)) (fun k => ?_) (Ev.now _)
   simp only [slices_IndexFunc_int_int_96.l0]
   rw [if_pos (by omega), if_pos (by omega), if_pos (by omega), at0_rd, if_neg e]
theorem leadI_ev (l : List Int) (hl : l.length ≤ 16777216) : Ev (fun k => impl_lead.f k l) (if ld l < l.length then (ld l : Int) else -1) := by
 unfold impl_lead.f
 refine Ev.bind (idx96_l0 l hl l.length 0 (by omega) (by omega)) (Ev.now _)
theorem leadS_l0 (l : List Int) (hl : l.length ≤ 16777216) (d : Nat) : ∀ i : Nat, l.length - i = d → i ≤ ld l → Ev (fun k => spec_l5Lead.l0 k l (i : Int)) (ld l : Int) := by
 induction d with
|zero =>
  intro i hd hi
  have := ld_le l
  rw [show ld l = l.length by omega]
  refine Ev.step (f := fun _ => some (l.length : Int)) (fun k => ?_) (Ev.now _)
  simp only [spec_l5Lead.l0]
  rw [if_neg (by omega)]
|succ d ih =>
  intro i hd hi
  have h : i < l.length := by omega
  by_cases e : at0 l i = 0
  ·have hne : i ≠ ld l := fun e2 => by
    subst e2
    exact ld_ne l h e
   refine Ev.step (f := fun k => spec_l5Lead.l0 k l ((i + 1 : Nat) : Int)) (fun k => ?_) (ih (i + 1) (by omega) (by omega))
   simp only [spec_l5Lead.l0]
   rw [if_pos (by omega), if_pos (by omega), at0_rd, if_pos e, wrap_id (by omega) (by omega)]
   rfl
  ·have he : ld l = i := ld_eq l i (fun j hj => ld_low l j (by omega)) e
   rw [he]
   refine Ev.step (f := fun _ => some (i : Int)) (fun k => ?_) (Ev.now _)
   simp only [spec_l5Lead.l0]
   rw [if_pos (by omega), if_pos (by omega), at0_rd, if_neg e]
theorem leadS_ev (l : List Int) (hl : l.length ≤ 16777216) : Ev (fun k => spec_l5Lead.f k l) (ld l : Int) := leadS_l0 l hl l.length 0 (by omega) (by omega)
theorem gcdl_lt (B : Nat) (hB : 0 < B) : ∀ l : List Int, (∀ x ∈ l, x.natAbs < B) → gcdl l < B
 | [], _ => by simpa [gcdl] using hB
 | x :: l, h => by
  rw [gcdl_cons]
  by_cases hx : x.natAbs = 0
  ·rw [hx, Nat.gcd_zero_left]
   exact gcdl_lt B hB l fun y hy => h y (by simp [hy])
  ·have := Nat.le_of_dvd (Nat.pos_of_ne_zero hx) (Nat.gcd_dvd_left x.natAbs (gcdl l))
   have := h x (by simp)
   omega
theorem gcdl_take (l : List Int) (i : Nat) (h : i < l.length) : gcdl (l.take (i + 1)) = Nat.gcd (gcdl (l.take i)) l[i].natAbs := by
 rw [List.take_succ_eq_append_getElem h]
 show List.foldl _ _ _ = _
 rw [List.foldl_append]
 rfl
theorem gcd_int (g : Nat) (x : Int) : Int.gcd (g : Int) x = Nat.gcd g x.natAbs := rfl
theorem mem_small {l : List Int} {B : Nat} (h : ∀ j, (at0 l j).natAbs < B) : ∀ x ∈ l, x.natAbs < B := fun x hx => by
 obtain ⟨i, hi, rfl⟩ := List.getElem_of_mem hx
 have := h i
 rwa [at0_lt hi] at this
def mixl {α : Type} (a b : List α) (i : Nat) : List α := b.take i ++ a.drop i
theorem mixl_zero {α : Type} (a b : List α) : mixl a b 0 = a := by simp [mixl]
theorem mixl_all {α : Type} (a b : List α) (i : Nat) (h : a.length = b.length) (hi : a.length ≤ i) : mixl a b i = b := by
 unfold mixl
 rw [List.drop_eq_nil_of_le hi, List.append_nil, List.take_of_length_le (by omega)]
theorem mixl_len {α : Type} (a b : List α) (i : Nat) (h : a.length = b.length) (hi : i ≤ a.length) : (mixl a b i).length = a.length := by
 simp only [mixl, List.length_append, List.length_take, List.length_drop]
 omega
theorem mixl_get {α : Type} (a b : List α) (i j : Nat) (h : a.length = b.length) : (mixl a b i)[j]? = if j < i then b[j]? else a[j]? := by
 unfold mixl
 by_cases hj : j < i
 ·rw [if_pos hj]
  by_cases h2 : j < b.length
  ·rw [List.getElem?_append_left (by rw [List.length_take]; omega), List.getElem?_take, if_pos hj]
  ·rw [List.getElem?_append_right (by rw [List.length_take]; omega), List.getElem?_eq_none (l := b) (by omega), List.getElem?_eq_none]
   rw [List.length_drop, List.length_take]
   omega
 ·rw [if_neg hj]
  by_cases h2 : j < b.length
  ·rw [List.getElem?_append_right (by rw [List.length_take]; omega), List.length_take, List.getElem?_drop]
   congr 1
   omega
  ·rw [List.getElem?_append_right (by rw [List.length_take]; omega), List.length_take, List.getElem?_drop, List.getElem?_eq_none (by omega), List.getElem?_eq_none (by omega)]
theorem mixl_set {α : Type} (a b : List α) (i : Nat) (x : α) (h : a.length = b.length) (hx : b[i]? = some x) : (mixl a b i).set i x = mixl a b (i + 1) := by
 have hi := (List.getElem?_eq_some_iff.1 hx).1
 apply List.ext_getElem?
 intro j
 rw [List.getElem?_set, mixl_len a b i h (by omega), mixl_get a b (i + 1) j h]
 by_cases e : i = j
 ·subst e
  rw [if_pos rfl, if_pos (by omega), if_pos (by omega), hx]
 ·rw [if_neg e, mixl_get a b i j h]
  by_cases hj : j < i
  ·rw [if_pos hj, if_pos (by omega)]
  ·rw [if_neg hj, if_neg (by omega)]
theorem mixl_same {α : Type} (a b : List α) (i : Nat) (h : a.length = b.length) (hx : b[i]? = a[i]?) : mixl a b i = mixl a b (i + 1) := by
 apply List.ext_getElem?
 intro j
 rw [mixl_get a b i j h, mixl_get a b (i + 1) j h]
 by_cases hj : j < i
 ·rw [if_pos hj, if_pos (by omega)]
 ·by_cases e : j = i
  ·subst e
   rw [if_neg hj, if_pos (by omega), hx]
  ·rw [if_neg hj, if_neg (by omega)]
def part (l : List Int) (i : Nat) : List Int := mixl l (tid l) i
theorem part_zero (l : List Int) : part l 0 = l := mixl_zero _ _
theorem part_all (l : List Int) : part l l.length = tid l := mixl_all _ _ _ (tid_len l).symm (Nat.le_refl _)
theorem part_len (l : List Int) (i : Nat) (h : i ≤ l.length) : (part l i).length = l.length := mixl_len _ _ _ (tid_len l).symm h
theorem mixl_at (a b : List Int) (i : Nat) (h : a.length = b.length) : at0 (mixl a b i) i = at0 a i := by
 unfold at0
 rw [List.getD_eq_getElem?_getD, List.getD_eq_getElem?_getD, mixl_get a b i i h, if_neg (by omega)]
theorem part_at (l : List Int) (i : Nat) (h : i < l.length) : at0 (part l i) i = at0 l i := mixl_at _ _ _ (tid_len l).symm
theorem part_succ (l : List Int) (i : Nat) (h : i < l.length) (x : Int) (hx : x = at0 (tid l) i) : (part l i).set i x = part l (i + 1) := by
 refine mixl_set _ _ _ _ (tid_len l).symm ?_
 have ht := tid_len l
 rw [hx, at0_lt (by omega), List.getElem?_eq_getElem (by omega)]
theorem div_step (l : List Int) (hg : gcdl l ≠ 0) (hs : ∀ j, (at0 l j).natAbs < 9223372036854775808) (i : Nat) : wrap64 (Int.tdiv (at0 l i) (sg l)) = at0 (tid l) i := by
 have h1 := tid_mul l hg i
 have h2 : Int.tdiv (at0 l i) (sg l) = at0 (tid l) i := by
  rw [← h1]
  exact Int.mul_tdiv_cancel_left _ (sg_ne l hg)
 rw [h2]
 have h3 := hs i
 have h5 : (at0 (tid l) i).natAbs ≤ (at0 l i).natAbs := by
  rw [← h1, Int.natAbs_mul]
  exact Nat.le_mul_of_pos_left _ (Int.natAbs_pos.2 (sg_ne l hg))
 exact wrap_id (by omega) (by omega)
theorem tidyI_l1 (l : List Int) (hl : l.length ≤ 16777216) (hg : gcdl l ≠ 0) (hs : ∀ j, (at0 l j).natAbs < 9223372036854775808) (d : Nat) : ∀ i : Nat, l.length - i = d → i ≤ l.length → Ev (fun k => impl_tidy.l1 k (part l i) (sg l) (l.length : Int) (i : Int)) (tid l) := by
 induction d with
|zero =>
  intro i hd hi
  refine Ev.step (f := fun _ => some (part l i)) (fun k => ?_) (ev_to (Ev.now (part l i)) (by rw [show i = l.length by omega, part_all]))
  simp only [impl_tidy.l1]
  rw [if_neg (by omega)]
|succ d ih =>
  intro i hd hi
  have h : i < l.length := by omega
  have hp := part_len l i (by omega)
  refine Ev.step (f := fun k => impl_tidy.l1 k (part l (i + 1)) (sg l) (l.length : Int) ((i + 1 : Nat) : Int)) (fun k => ?_) (ih (i + 1) (by omega) (by omega))
  simp only [impl_tidy.l1]
  rw [if_pos (by omega), if_pos (by omega), if_pos (by omega), if_neg (sg_ne l hg), at0_rd, part_at l i h, div_step l hg hs i, Int.toNat_natCast, part_succ l i h _ rfl, wrap_id (by omega) (by omega)]
  rfl
theorem tidyS_l1 (l : List Int) (hl : l.length ≤ 16777216) (hg : gcdl l ≠ 0) (hs : ∀ j, (at0 l j).natAbs < 9223372036854775808) (d : Nat) : ∀ i : Nat, l.length - i = d → i ≤ l.length → Ev (fun k => spec_l5Tidy.l1 k (sg l) (part l i) (i : Int)) (tid l) := by
 induction d with
|zero =>
  intro i hd hi
  have hp := part_len l i (by omega)
  refine Ev.step (f := fun _ => some (part l i)) (fun k => ?_) (ev_to (Ev.now (part l i)) (by rw [show i = l.length by omega, part_all]))
  simp only [spec_l5Tidy.l1]
  rw [if_neg (by omega)]
|succ d ih =>
  intro i hd hi
  have h : i < l.length := by omega
  have hp := part_len l i (by omega)
  refine Ev.step (f := fun k => spec_l5Tidy.l1 k (sg l) (part l (i + 1)) ((i + 1 : Nat) : Int)) (fun k => ?_) (ih (i + 1) (by omega) (by omega))
  simp only [spec_l5Tidy.l1]
  rw [if_pos (by omega), if_pos (by omega), if_neg (sg_ne l hg), at0_rd, part_at l i h, div_step l hg hs i, Int.toNat_natCast, part_succ l i h _ rfl, wrap_id (by omega) (by omega)]
  rfl
theorem sg_case (l : List Int) : sg l = if at0 l (ld l) < 0 then -(gcdl l : Int) else gcdl l := rfl
theorem tidyI_l0 (l : List Int) (hl : l.length ≤ 16777216) (hs : ∀ j, (at0 l j).natAbs < 9223372036854775808) (d : Nat) : ∀ i : Nat, l.length - i = d → i ≤ l.length → Ev (fun k => impl_tidy.l0 k l ((gcdl (l.take i) : Nat) : Int) l (l.length : Int) (i : Int)) (tid l) := by
 have hm := mem_small hs
 induction d with
|zero =>
  intro i hd hi
  rw [List.take_of_length_le (by omega)]
  have hgl := gcdl_lt _ (by decide) l hm
  by_cases hg : gcdl l = 0
  ·refine Ev.step (f := fun _ => some l) (fun k => ?_) (ev_to (Ev.now l) (by unfold tid;rw [if_pos hg]))
   simp only [impl_tidy.l0]
   rw [if_neg (by omega), if_pos (by omega)]
  ·have hld := ld_lt l hg
   have hlead := leadI_ev l hl
   rw [if_pos hld] at hlead
   have hl1 := tidyI_l1 l hl hg hs l.length 0 (by omega) (by omega)
   rw [part_zero] at hl1
   have hj : Ev (fun k => impl_tidy.j1 k l (sg l)) (tid l) := Ev.step (fun k => impl_tidy.j1.eq_2 _ _ _) hl1
   refine Ev.step (f := fun k => (impl_lead.f k l).bind fun t => if 0 ≤ t then (if t < (l.length : Int) then (if rd l t < 0 then impl_tidy.j1 k l (wrap64 (-((gcdl l : Nat) : Int))) else impl_tidy.j1 k l ((gcdl l : Nat) : Int)) else none) else none) (fun k => ?_) ?_
   ·simp only [impl_tidy.l0]
    rw [if_neg (by omega), if_neg (by omega)]
   ·refine Ev.bind hlead ?_
    simp only [if_pos (show (0 : Int) ≤ (ld l : Int) by omega), if_pos (show (ld l : Int) < (l.length : Int) by omega), at0_rd]
    have hc := sg_case l
    by_cases hn : at0 l (ld l) < 0
    ·simp only [if_pos hn] at hc ⊢
     rw [wrap_id (by omega) (by omega), ← hc]
     exact hj
    ·simp only [if_neg hn] at hc ⊢
     rw [← hc]
     exact hj
|succ d ih =>
  intro i hd hi
  have h : i < l.length := by omega
  have hgl := gcdl_lt 9223372036854775808 (by decide) (l.take i) fun x hx => hm x (List.mem_of_mem_take hx)
  have hsi := hs i
  have hgc := gcdI_ev ((gcdl (l.take i) : Nat) : Int) (at0 l i) (by omega) (by omega) (by omega) (by omega)
  rw [gcd_int, at0_lt h, ← gcdl_take l i h] at hgc
  refine Ev.step (f := fun k => (impl_gcd.f k ((gcdl (l.take i) : Nat) : Int) l[i]).bind fun t => impl_tidy.l0 k l t l (l.length : Int) ((i + 1 : Nat) : Int)) (fun k => ?_) (Ev.bind hgc (ih (i + 1) (by omega) (by omega)))
  simp only [impl_tidy.l0]
  rw [if_pos (by omega), if_pos (by omega), if_pos (by omega), at0_rd, at0_lt h, wrap_id (by omega) (by omega)]
  rfl
theorem tidyI_ev (l : List Int) (hl : l.length ≤ 16777216) (hs : ∀ j, (at0 l j).natAbs < 9223372036854775808) : Ev (fun k => impl_tidy.f k l) (tid l) := tidyI_l0 l hl hs l.length 0 (by omega) (by omega)
theorem tidyS_l0 (l : List Int) (hl : l.length ≤ 16777216) (hs : ∀ j, (at0 l j).natAbs < 9223372036854775808) (d : Nat) : ∀ i : Nat, l.length - i = d → i ≤ l.length → Ev (fun k => spec_l5Tidy.l0 k l ((gcdl (l.take i) : Nat) : Int) (i : Int)) (tid l) := by
 have hm := mem_small hs
 induction d with
|zero =>
  intro i hd hi
  rw [List.take_of_length_le (by omega)]
  have hgl := gcdl_lt _ (by decide) l hm
  have hlead := leadS_ev l hl
  have hlle := ld_le l
  refine Ev.step (f := fun k => (spec_l5Lead.f k l).bind fun t => if t = (l.length : Int) then some l else if 0 ≤ t then (if t < (l.length : Int) then (if rd l t < 0 then spec_l5Tidy.j1 k (wrap64 (-((gcdl l : Nat) : Int))) l else spec_l5Tidy.j1 k ((gcdl l : Nat) : Int) l) else none) else none) (fun k => ?_) ?_
  ·simp only [spec_l5Tidy.l0]
   rw [if_neg (by omega)]
   simp only [Option.bind_some, List.nil_append, List.length_nil, Nat.zero_add]
   rw [if_pos (by omega)]
  ·refine Ev.bind hlead ?_
   by_cases hg : gcdl l = 0
   ·have h0 := ld_zero l (gcdl_zero l hg)
    simp only [if_pos (show (ld l : Int) = (l.length : Int) by omega)]
    exact ev_to (Ev.now l) (by unfold tid;rw [if_pos hg])
   ·have hld := ld_lt l hg
    have hl1 := tidyS_l1 l hl hg hs l.length 0 (by omega) (by omega)
    rw [part_zero] at hl1
    have hj : Ev (fun k => spec_l5Tidy.j1 k (sg l) l) (tid l) := Ev.step (fun k => spec_l5Tidy.j1.eq_2 _ _ _) hl1
    simp only [if_neg (show ¬ (ld l : Int) = (l.length : Int) by omega), if_pos (show (0 : Int) ≤ (ld l : Int) by omega), if_pos (show (ld l : Int) < (l.length : Int) by omega), at0_rd]
    have hc := sg_case l
    by_cases hn : at0 l (ld l) < 0
    ·simp only [if_pos hn] at hc ⊢
     rw [wrap_id (by omega) (by omega), ← hc]
     exact hj
    ·simp only [if_neg hn] at hc ⊢
     rw [← hc]
     exact hj
|succ d ih =>
  intro i hd hi
  have h : i < l.length := by omega
  have hgl := gcdl_lt 9223372036854775808 (by decide) (l.take i) fun x hx => hm x (List.mem_of_mem_take hx)
  have hsi := hs i
  have hgc := gcdS_ev ((gcdl (l.take i) : Nat) : Int) (at0 l i) (by omega) (by omega) (by omega) (by omega)
  rw [gcd_int, at0_lt h, ← gcdl_take l i h] at hgc
  refine Ev.step (f := fun k => (spec_l4Gcd.f k ((gcdl (l.take i) : Nat) : Int) l[i]).bind fun t => spec_l5Tidy.l0 k l t ((i + 1 : Nat) : Int)) (fun k => ?_) (Ev.bind hgc (ih (i + 1) (by omega) (by omega)))
  simp only [spec_l5Tidy.l0]
  rw [if_pos (by omega), if_pos (by omega), at0_rd, at0_lt h, wrap_id (by omega) (by omega)]
  rfl
theorem tidyS_ev (l : List Int) (hl : l.length ≤ 16777216) (hs : ∀ j, (at0 l j).natAbs < 9223372036854775808) : Ev (fun k => spec_l5Tidy.f k l) (tid l) := tidyS_l0 l hl hs l.length 0 (by omega) (by omega)
theorem mapO_ev (f : Nat → List Int → Option (List Int)) (g : List Int → List Int) : ∀ l : List (List Int), (∀ x ∈ l, Ev (fun k => f k x) (g x)) → Ev (fun k => impl_reduceAny.mapO (f k) l) (l.map g)
|[], _ => Ev.now []
|x :: l, h => by
  refine Ev.congr (f := fun k => (f k x).bind fun y => (impl_reduceAny.mapO (f k) l).bind fun m => some (y :: m)) (fun k => rfl) ?_
  exact Ev.bind (h x (by simp)) (Ev.bind (mapO_ev f g l fun y hy => h y (by simp [hy])) (Ev.now _))
def Small (l : List Int) : Prop := ∀ j, (at0 l j).natAbs ≤ 322560000
theorem mul_small {a b : Int} (ha : a.natAbs ≤ 322560000) (hb : b.natAbs ≤ 322560000) : (a * b).natAbs ≤ 104044953600000000 := by
 rw [Int.natAbs_mul]
 exact Nat.mul_le_mul ha hb
theorem comb_step (x p : List Int) (c i : Nat) (h : x.length = p.length) (hx : Small x) (hp : Small p) : wrap64 (wrap64 (at0 x i * at0 p c) - wrap64 (at0 p i * at0 x c)) = at0 (comb x p c) i := by
 have h1 := mul_small (hx i) (hp c)
 have h2 := mul_small (hp i) (hx c)
 rw [wrap_id (x := at0 x i * at0 p c) (by omega) (by omega), wrap_id (x := at0 p i * at0 x c) (by omega) (by omega), wrap_id (by omega) (by omega), comb_at x p c h]
theorem comb_small (x p : List Int) (c : Nat) (h : x.length = p.length) (hx : Small x) (hp : Small p) (j : Nat) : (at0 (comb x p c) j).natAbs < 9223372036854775808 := by
 have h1 := mul_small (hx j) (hp c)
 have h2 := mul_small (hp j) (hx c)
 rw [comb_at x p c h]
 omega
theorem rowI_l0 (x p : List Int) (c : Nat) (h : x.length = p.length) (hl : x.length ≤ 16777216) (hc : c < x.length) (hx : Small x) (hp : Small p) (d : Nat) : ∀ i : Nat, x.length - i = d → i ≤ x.length → Ev (fun k => impl_reduceAny.l0 k (c : Int) p (mixl x (comb x p c) i) (at0 x c) (x.length : Int) (i : Int)) (tid (comb x p c)) := by
 have hcl := (comb_len x p c h).symm
 induction d with
|zero =>
  intro i hd hi
  rw [mixl_all _ _ _ hcl (by omega)]
  refine Ev.step (f := fun k => (impl_tidy.f k (comb x p c)).bind fun t => some t) (fun k => ?_) (Ev.bind (tidyI_ev _ (by omega) (comb_small x p c h hx hp)) (Ev.now _))
  simp only [impl_reduceAny.l0]
  rw [if_neg (by omega)]
|succ d ih =>
  intro i hd hi
  have hi2 : i < x.length := by omega
  have hm := mixl_len _ _ i hcl (by omega)
  refine Ev.step (f := fun k => impl_reduceAny.l0 k (c : Int) p (mixl x (comb x p c) (i + 1)) (at0 x c) (x.length : Int) ((i + 1 : Nat) : Int)) (fun k => ?_) (ih (i + 1) (by omega) (by omega))
  simp only [impl_reduceAny.l0]
  rw [if_pos (by omega), if_pos (by omega), if_pos (by omega), if_pos (by omega), if_pos (by omega), if_pos (by omega), at0_rd, at0_rd, at0_rd, mixl_at _ _ _ hcl, comb_step x p c i h hx hp, Int.toNat_natCast,
   mixl_set _ _ _ _ hcl (by rw [at0_lt (by omega), List.getElem?_eq_getElem (by omega)]), wrap_id (by omega) (by omega)]
  rfl
theorem rowI_ev (x p : List Int) (c : Nat) (h : x.length = p.length) (hl : x.length ≤ 16777216) (hc : c < x.length) (hx : Small x) (hp : Small p) : Ev (fun k => impl_reduceAny.row k (c : Int) p x) (clr c p x) := by
 unfold impl_reduceAny.row clr
 simp only [if_pos (show (0 : Int) ≤ (c : Int) by omega), if_pos (show (c : Int) < (x.length : Int) by omega), at0_rd]
 by_cases e : at0 x c = 0
 ·simp only [if_pos e]
  exact Ev.now x
 ·simp only [if_neg e]
  have := rowI_l0 x p c h hl hc hx hp x.length 0 (by omega) (by omega)
  rw [mixl_zero] at this
  exact this
theorem clearS_l0 (a p : List Int) (c : Nat) (h : a.length = p.length) (hl : a.length ≤ 16777216) (hc : c < a.length) (hx : Small a) (hp : Small p) (d : Nat) : ∀ i : Nat, a.length - i = d → i ≤ a.length → Ev (fun k => spec_l5Clear.l0 k a p (c : Int) ((comb a p c).take i) (i : Int)) (tid (comb a p c)) := by
 have hcl := comb_len a p c h
 induction d with
|zero =>
  intro i hd hi
  rw [List.take_of_length_le (by omega)]
  refine Ev.step (f := fun k => (spec_l5Tidy.f k (comb a p c)).bind fun t => some t) (fun k => ?_) (Ev.bind (tidyS_ev _ (by omega) (comb_small a p c h hx hp)) (Ev.now _))
  simp only [spec_l5Clear.l0]
  rw [if_neg (by omega)]
|succ d ih =>
  intro i hd hi
  have hi2 : i < (comb a p c).length := by omega
  refine Ev.step (f := fun k => spec_l5Clear.l0 k a p (c : Int) ((comb a p c).take (i + 1)) ((i + 1 : Nat) : Int)) (fun k => ?_) (ih (i + 1) (by omega) (by omega))
  simp only [spec_l5Clear.l0]
  rw [if_pos (by omega), if_pos (by omega), if_pos (by omega), if_pos (by omega), if_pos (by omega), if_pos (by omega), if_pos (by rw [List.length_take];omega), at0_rd, at0_rd, at0_rd, at0_rd, comb_step a p c i h hx hp, at0_lt hi2, ← List.take_succ_eq_append_getElem hi2, wrap_id (by omega) (by omega)]
  rfl
theorem clearS_ev (a p : List Int) (c : Nat) (h : a.length = p.length) (hl : a.length ≤ 16777216) (hc : c < a.length) (hx : Small a) (hp : Small p) : Ev (fun k => spec_l5Clear.f k a p (c : Int)) (tid (comb a p c)) :=
 clearS_l0 a p c h hl hc hx hp a.length 0 (by omega) (by omega)
def hit (c : Nat) (x : List Int) : Bool := decide (ld x = c ∧ c < x.length)
theorem idx106_l0 (X : List (List Int)) (c : Nat) (hl : X.length ≤ 16777216) (hr : ∀ x ∈ X, x.length ≤ 16777216) (d : Nat) : ∀ i : Nat, X.length - i = d → i ≤ X.length → (∀ j, j < i → ∀ x, X[j]? = some x → hit c x = false) →
  Ev (fun k => slices_IndexFunc_int_int_106.l0 k X (c : Int) (X.length : Int) (i : Int)) (if X.findIdx (hit c) < X.length then (X.findIdx (hit c) : Int) else -1) := by
 induction d with
|zero =>
  intro i hd hi hh
  have hn : ¬ X.findIdx (hit c) < X.length := fun h => by
   have h1 := List.findIdx_getElem (w := h)
   have h2 := hh _ (by omega) _ (List.getElem?_eq_getElem h)
   rw [h2] at h1
   cases h1
  rw [if_neg hn]
  refine Ev.step (f := fun _ => some (-1)) (fun k => ?_) (Ev.now _)
  simp only [slices_IndexFunc_int_int_106.l0]
  rw [if_neg (by omega)]
|succ d ih =>
  intro i hd hi hh
  have h : i < X.length := by omega
  have hlead := leadI_ev X[i] (hr _ (List.getElem_mem h))
  refine Ev.step (f := fun k => (impl_lead.f k X[i]).bind fun t => if t = (c : Int) then some (i : Int) else slices_IndexFunc_int_int_106.l0 k X (c : Int) (X.length : Int) ((i + 1 : Nat) : Int)) (fun k => ?_) (Ev.bind hlead ?_)
  ·simp only [slices_IndexFunc_int_int_106.l0]
   rw [if_pos (by omega), if_pos (by omega), if_pos (by omega), rdL_nat X i h, wrap_id (by omega) (by omega)]
   rfl
  ·by_cases e : hit c X[i] = true
   ·have e' : ld X[i] = c ∧ c < X[i].length := by simpa [hit] using e
    have hf : X.findIdx (hit c) = i := by
     refine (List.findIdx_eq h).2 ⟨e, fun j hj => ?_⟩
     exact hh j hj _ (List.getElem?_eq_getElem (by omega))
    rw [hf, if_pos h]
    simp only [if_pos (show ld X[i] < X[i].length by omega), if_pos (show (ld X[i] : Int) = (c : Int) by omega)]
    exact Ev.now _
   ·have e' : ¬ (ld X[i] = c ∧ c < X[i].length) := by simpa [hit] using e
    simp only [if_neg (show ¬ (if ld X[i] < X[i].length then (ld X[i] : Int) else -1) = (c : Int) by split <;> omega)]
    refine ih (i + 1) (by omega) (by omega) fun j hj x hx => ?_
    by_cases ej : j = i
    ·subst ej
     rw [List.getElem?_eq_getElem h] at hx
     cases hx
     simpa using e
    ·exact hh j (by omega) x hx
theorem idx106_ev (X : List (List Int)) (c : Nat) (hl : X.length ≤ 16777216) (hr : ∀ x ∈ X, x.length ≤ 16777216) : Ev (fun k => slices_IndexFunc_int_int_106.f k X (c : Int)) (if X.findIdx (hit c) < X.length then (X.findIdx (hit c) : Int) else -1) :=
 idx106_l0 X c hl hr X.length 0 (by omega) (by omega) fun j hj => by omega
theorem copy_l0 (l : List (List Int)) (hl : l.length ≤ 16777216) (hr : ∀ x ∈ l, x.length ≤ 16777216) (d : Nat) : ∀ i : Nat, l.length - i = d → i ≤ l.length → Ev (fun k => impl_copyRows.l0 k (l.take i) l (l.length : Int) (i : Int)) l := by
 induction d with
|zero =>
  intro i hd hi
  rw [List.take_of_length_le (by omega)]
  refine Ev.step (f := fun _ => some l) (fun k => ?_) (Ev.now _)
  simp only [impl_copyRows.l0]
  rw [if_neg (by omega)]
|succ d ih =>
  intro i hd hi
  have h : i < l.length := by omega
  have hc : slices_Clone_int_int_95.f l[i] = some l[i] := by
   have := hr _ (List.getElem_mem h)
   unfold slices_Clone_int_int_95.f
   simp only [Option.bind_some, List.length_nil, List.nil_append, Nat.zero_add]
   rw [if_pos (by omega)]
  refine Ev.step (f := fun k => impl_copyRows.l0 k (l.take (i + 1)) l (l.length : Int) ((i + 1 : Nat) : Int)) (fun k => ?_) (ih (i + 1) (by omega) (by omega))
  simp only [impl_copyRows.l0]
  rw [if_pos (by omega), if_pos (by omega), if_pos (by omega), rdL_nat l i h, hc]
  simp only [Option.bind_some]
  rw [if_pos (by rw [List.length_take];omega), ← List.take_succ_eq_append_getElem h, wrap_id (by omega) (by omega)]
  rfl
theorem copy_ev (l : List (List Int)) (hl : l.length ≤ 16777216) (hr : ∀ x ∈ l, x.length ≤ 16777216) : Ev (fun k => impl_copyRows.f k l) l := copy_l0 l hl hr l.length 0 (by omega) (by omega)
theorem findIdx_hit (Q : List (List Int)) (c : Nat) (h : Q.findIdx (hit c) < Q.length) : hit c Q[Q.findIdx (hit c)] = true := List.findIdx_getElem (w := h)
theorem implLp {S : V → Prop} {m0 n : Nat} (hb : ∀ o, S o → ∀ j, (o j).natAbs ≤ bnd m0 j) (hm0 : m0 ≤ 6) (hn : n ≤ m0 + 1) (d : Nat) : ∀ (c : Nat) (P : List (List Int × Nat)) (Q : List (List Int)), c + d = n → Red S c P Q → (∀ p ∈ P, p.1.length = n) → (∀ q ∈ Q, q.length = n) → Q.length ≤ 16777216 →
  ∃ P' Q', Red S n P' Q' ∧ (∀ p ∈ P', p.1.length = n) ∧ (∀ q ∈ Q', q.length = n) ∧ Ev (fun k => impl_reduceAny.lp k d c Q (P.map (·.1)).reverse) (P'.map (·.1)).reverse := by
 induction d with
|zero =>
  intro c P Q hcd hR hP hQ hl
  obtain rfl : n = c := by omega
  exact ⟨P, Q, hR, hP, hQ, Ev.now _⟩
|succ d ih =>
  intro c P Q hcd hR hP hQ hl
  have hidx := idx106_ev Q c hl fun q hq => by rw [hQ q hq];omega
  by_cases hf : Q.findIdx (hit c) < Q.length
  ·obtain ⟨i, hi⟩ : ∃ i, i = Q.findIdx (hit c) := ⟨_, rfl⟩
   have hh := findIdx_hit Q c hf
   simp only [← hi] at hidx hf hh
   obtain ⟨q, hq⟩ : ∃ q, q = Q[i] := ⟨_, rfl⟩
   rw [← hq] at hh
   have hqm : q ∈ Q := by rw [hq];exact List.getElem_mem hf
   have hh' : ld q = c ∧ c < q.length := by simpa [hit] using hh
   have hqc : at0 q c ≠ 0 := by
    have := ld_ne q (by omega)
    rwa [hh'.1] at this
   have hsQ : ∀ r ∈ Q, Small r := fun r hr j => hR.small_rest hb (by omega) hm0 r hr j
   have hsP : ∀ p ∈ P, Small p.1 := fun p hp j => by
    have := hR.small_piv' hb (by omega) hm0 p hp j
    omega
   have hst := hR.step (Q' := Q.eraseIdx i) hP hQ q hqc hqm (fun x hx => by
    by_cases e : x = q
    ·exact .inl e
    ·right
     obtain ⟨j, hj, rfl⟩ := List.getElem_of_mem hx
     have hji : j ≠ i := fun e2 => by
      subst e2
      exact e hq.symm
     rw [List.mem_iff_getElem?]
     by_cases hlt : j < i
     ·exact ⟨j, by rw [List.getElem?_eraseIdx, if_pos hlt, List.getElem?_eq_getElem hj]⟩
     ·refine ⟨j - 1, ?_⟩
      rw [List.getElem?_eraseIdx, if_neg (by omega), show j - 1 + 1 = j by omega, List.getElem?_eq_getElem hj]) (fun x hx => List.mem_of_mem_eraseIdx hx)
   obtain ⟨P', Q', hR', hP', hQ', hev⟩ := ih (c + 1) _ _ (by omega) hst (fun p hp => by
    rcases List.mem_cons.1 hp with h|h
    ·rw [h];exact hQ q hqm
    ·obtain ⟨p2, hp2, e⟩ := List.mem_map.1 h
     rw [← e]
     show (clr c q p2.1).length = n
     rw [clr_len c q p2.1 (by rw [hP p2 hp2, hQ q hqm]), hP p2 hp2]) (fun r hr => by
    obtain ⟨r2, hr2, e⟩ := List.mem_map.1 hr
    have := hQ r2 (List.mem_of_mem_eraseIdx hr2)
    rw [← e, clr_len c q r2 (by rw [this, hQ q hqm]), this]) (by rw [List.length_map, List.length_eraseIdx, if_pos hf];omega)
   refine ⟨P', Q', hR', hP', hQ', ?_⟩
   refine Ev.congr (f := fun k => (slices_IndexFunc_int_int_106.f k Q (c : Int)).bind fun i => if i < 0 then impl_reduceAny.lp k d (c + 1) Q (P.map (·.1)).reverse else if i < (Q.length : Int) then (impl_reduceAny.mapO (impl_reduceAny.row k (c : Int) (Q.getD i.toNat [])) (Q.eraseIdx i.toNat)).bind fun X' => (impl_reduceAny.mapO (impl_reduceAny.row k (c : Int) (Q.getD i.toNat [])) (P.map (·.1)).reverse).bind fun Y' => impl_reduceAny.lp k d (c + 1) X' (Y' ++ [Q.getD i.toNat []]) else none) (fun k => rfl) (Ev.bind hidx ?_)
   simp only [if_pos hf]
   simp only [if_neg (show ¬ (i : Int) < 0 by omega), if_pos (show (i : Int) < (Q.length : Int) by omega), Int.toNat_natCast]
   have hgd : Q.getD i [] = q := by rw [hq, List.getD_eq_getElem?_getD, List.getElem?_eq_getElem hf];rfl
   simp only [hgd]
   refine Ev.bind (mapO_ev (fun k => impl_reduceAny.row k (c : Int) q) (clr c q) _ fun x hx => ?_) ?_
   ·have hx2 := List.mem_of_mem_eraseIdx hx
    exact rowI_ev x q c (by rw [hQ x hx2, hQ q hqm]) (by rw [hQ x hx2];omega) (by rw [hQ x hx2];omega) (hsQ x hx2) (hsQ q hqm)
   ·refine Ev.bind (mapO_ev (fun k => impl_reduceAny.row k (c : Int) q) (clr c q) _ fun x hx => ?_) ?_
    ·obtain ⟨p, hp, e⟩ := List.mem_map.1 (List.mem_reverse.1 hx)
     subst e
     exact rowI_ev p.1 q c (by rw [hP p hp, hQ q hqm]) (by rw [hP p hp];omega) (by rw [hP p hp];omega) (hsP p hp) (hsQ q hqm)
    ·have e : (P.map (·.1)).reverse.map (clr c q) ++ [q] = (((q, c) :: P.map fun p => (clr c q p.1, p.2)).map (·.1)).reverse := by
      simp [List.map_reverse, List.map_map, Function.comp_def]
     rw [e]
     exact hev
  ·obtain ⟨P', Q', hR', hP', hQ', hev⟩ := ih (c + 1) P Q (by omega) (hR.skip fun q hq => by
    refine Classical.byContradiction fun hne => ?_
    have hld := ld_eq q c (fun j hj => hR.low q hq j hj) hne
    have hlt : c < q.length := by rw [hQ q hq];omega
    have hh : hit c q = true := by simp [hit, hld, hlt]
    exact hf (List.findIdx_lt_length_of_exists ⟨q, hq, hh⟩)) hP hQ hl
   refine ⟨P', Q', hR', hP', hQ', ?_⟩
   refine Ev.congr (f := fun k => (slices_IndexFunc_int_int_106.f k Q (c : Int)).bind fun i => if i < 0 then impl_reduceAny.lp k d (c + 1) Q (P.map (·.1)).reverse else if i < (Q.length : Int) then (impl_reduceAny.mapO (impl_reduceAny.row k (c : Int) (Q.getD i.toNat [])) (Q.eraseIdx i.toNat)).bind fun X' => (impl_reduceAny.mapO (impl_reduceAny.row k (c : Int) (Q.getD i.toNat [])) (P.map (·.1)).reverse).bind fun Y' => impl_reduceAny.lp k d (c + 1) X' (Y' ++ [Q.getD i.toNat []]) else none) (fun k => rfl) (Ev.bind hidx ?_)
   simp only [if_neg hf]
   simp only [if_pos (show (-1 : Int) < 0 by omega)]
   exact hev
structure Okm (m : List (List Int)) (m0 n : Nat) : Prop where
 pos : 1 ≤ n
 cols : n ≤ m0 + 1
 le6 : m0 ≤ 6
 rows : m.length ≤ 1000
 len : ∀ r ∈ m, r.length = n
 small : ∀ r ∈ m, ∀ j, (at0 r j).natAbs ≤ bnd m0 j
theorem Okm.start {m : List (List Int)} {m0 n : Nat} (h : Okm m m0 n) : (∀ o, RowSp m o → ∀ j, (o j).natAbs ≤ bnd m0 j) ∧ ∀ r ∈ m, ∀ j, (at0 r j).natAbs < 9223372036854775808 := by
 refine ⟨fun o ho j => ?_, fun r hr j => ?_⟩
 ·obtain ⟨r, hr, rfl⟩ := ho
  exact h.small r hr j
 ·have := h.small r hr j
  have := bnd_le m0 j
  omega
theorem implRed {m : List (List Int)} {m0 n : Nat} (h : Okm m m0 n) : ∃ P Q, Red (RowSp m) n P Q ∧ (∀ p ∈ P, p.1.length = n) ∧ (∀ q ∈ Q, q.length = n) ∧ Ev (fun k => impl_reduceAny.f k m (n : Int)) (P.map (·.1)).reverse := by
 have h1 := h.pos;have h2 := h.cols;have h3 := h.le6;have h4 := h.rows
 obtain ⟨P, Q, hR, hP, hQ, hev⟩ := implLp h.start.1 h.le6 h.cols n 0 [] (m.map tid) (by omega) (Red.start m) (by simp) (fun q hq => by
  obtain ⟨r, hr, rfl⟩ := List.mem_map.1 hq
  rw [tid_len, h.len r hr]) (by rw [List.length_map];omega)
 refine ⟨P, Q, hR, hP, hQ, ?_⟩
 unfold impl_reduceAny.f
 refine Ev.bind (copy_ev m (by omega) fun r hr => by rw [h.len r hr];omega) ?_
 simp only [if_pos (show 1 ≤ (n : Int) ∧ (n : Int) ≤ 1000000 ∧ m.length ≤ 1000000 ∧ (∀ x ∈ m, (x.length : Int) = (n : Int)) from ⟨by omega, by omega, by omega, fun x hx => by rw [h.len x hx]⟩)]
 refine Ev.bind (mapO_ev (fun k => impl_tidy.f k) tid m fun x hx => tidyI_ev x (by rw [h.len x hx];omega) (h.start.2 x hx)) ?_
 rw [Int.toNat_natCast]
 exact hev
def swp (Q : List (List Int)) (j : Nat) : List (List Int) := (Q.set j (Q.getD 0 [])).tail
theorem swp_set (L Q : List (List Int)) (j : Nat) (q : List Int) (h : j < Q.length) : ((L ++ Q).set (L.length + j) (Q.getD 0 [])).set L.length q = L ++ q :: swp Q j := by
 rw [List.set_append_right _ _ (by omega), Nat.add_sub_cancel_left, List.set_append_right _ _ (by omega), Nat.sub_self]
 congr 1
 unfold swp
 cases hQ : Q.set j (Q.getD 0 []) with
 | nil =>
  have := congrArg List.length hQ
  simp at this
  subst this
  simp at h
 | cons a l => simp
theorem swp_len (Q : List (List Int)) (j : Nat) (h : j < Q.length) : (swp Q j).length + 1 = Q.length := by
 unfold swp
 rw [List.length_tail, List.length_set]
 omega
theorem swp_get (Q : List (List Int)) (j i : Nat) : (swp Q j)[i]? = if j = i + 1 ∧ i + 1 < Q.length then some (Q.getD 0 []) else Q[i + 1]? := by
 unfold swp
 rw [List.getElem?_tail, List.getElem?_set]
 by_cases h1 : j = i + 1
 ·subst h1
  by_cases h2 : i + 1 < Q.length
  ·simp [h2]
  ·simp [h2]
 ·simp [h1]
theorem swp_sub (Q : List (List Int)) (j : Nat) (h : j < Q.length) : ∀ x ∈ swp Q j, x ∈ Q := fun x hx => by
 obtain ⟨i, hi⟩ := List.getElem?_of_mem hx
 rw [swp_get] at hi
 split at hi
 ·cases hi
  rw [List.getD_eq_getElem?_getD, List.getElem?_eq_getElem (by omega)]
  exact List.getElem_mem _
 ·exact List.mem_of_getElem? hi
theorem swp_all (Q : List (List Int)) (j : Nat) (h : j < Q.length) : ∀ x ∈ Q, x = Q[j] ∨ x ∈ swp Q j := fun x hx => by
 obtain ⟨i, hi, rfl⟩ := List.getElem_of_mem hx
 by_cases e : i = j
 ·subst e;exact .inl rfl
 ·right
  by_cases h0 : i = 0
  ·subst h0
   refine List.mem_of_getElem? (i := j - 1) ?_
   rw [swp_get, if_pos ⟨by omega, by omega⟩, List.getD_eq_getElem?_getD, List.getElem?_eq_getElem hi]
   rfl
  ·refine List.mem_of_getElem? (i := i - 1) ?_
   rw [swp_get, if_neg (by omega), show i - 1 + 1 = i by omega, List.getElem?_eq_getElem hi]
theorem specL3 {α : Nat → Option (List (List Int))} (R F : List (List Int)) (cols : Int) (at_ c n : Nat) (q : List Int) (r : List (List Int)) (hl : R.length = F.length) (hR : R.length ≤ 1000) (hat : at_ < R.length) (hq : R[at_]? = some q) (hqF : F[at_]? = some q) (hn : n ≤ 16777216) (hc : c < n)
  (hlen : ∀ x ∈ R, x.length = n) (hsm : ∀ x ∈ R, Small x) (hF : ∀ i x, i ≠ at_ → R[i]? = some x → F[i]? = some (clr c q x)) (hc2 : c ≤ 1000)
  (hend : Ev (fun k => spec_l5Reduce.l1 k cols F ((at_ + 1 : Nat) : Int) ((c + 1 : Nat) : Int)) r) (d : Nat) : ∀ i : Nat, R.length - i = d → i ≤ R.length → Ev (fun k => spec_l5Reduce.l3 k cols (mixl R F i) (at_ : Int) (c : Int) (i : Int)) r := by
 have hqm : q ∈ R := List.mem_of_getElem? hq
 induction d with
|zero =>
  intro i hd hi
  rw [mixl_all R F i hl (by omega)]
  refine Ev.step (f := fun k => spec_l5Reduce.l1 k cols F ((at_ + 1 : Nat) : Int) ((c + 1 : Nat) : Int)) (fun k => ?_) hend
  simp only [spec_l5Reduce.l3]
  rw [if_neg (by omega), wrap_id (by omega) (by omega), wrap_id (by omega) (by omega)]
  rfl
|succ d ih =>
  intro i hd hi
  have h : i < R.length := by omega
  have hml := mixl_len R F i hl (by omega)
  by_cases e : i = at_
  ·refine Ev.step (f := fun k => spec_l5Reduce.l3 k cols (mixl R F (i + 1)) (at_ : Int) (c : Int) ((i + 1 : Nat) : Int)) (fun k => ?_) (ih (i + 1) (by omega) (by omega))
   simp only [spec_l5Reduce.l3]
   rw [if_pos (by omega), if_pos (by omega), wrap_id (by omega) (by omega), mixl_same R F i hl (by rw [e, hq, hqF])]
   rfl
  ·have hx := List.getElem?_eq_getElem h
   have hxm : R[i] ∈ R := List.getElem_mem h
   have hgi : (mixl R F i)[i]? = some R[i] := by rw [mixl_get R F i i hl, if_neg (by omega), hx]
   have hga : (mixl R F i)[at_]? = some q := by
    rw [mixl_get R F i at_ hl]
    split
    ·exact hqF
    ·exact hq
   have hri : rd_L1 (mixl R F i) (i : Int) = R[i] := by
    rw [rdL_nat _ i (by omega)]
    exact (List.getElem?_eq_some_iff.1 hgi).2
   have hra : rd_L1 (mixl R F i) (at_ : Int) = q := by
    rw [rdL_nat _ at_ (by omega)]
    exact (List.getElem?_eq_some_iff.1 hga).2
   have hFi := hF i R[i] e hx
   have hlx := hlen _ hxm
   by_cases h0 : at0 R[i] c = 0
   ·have hsame : F[i]? = R[i]? := by rw [hFi, hx];unfold clr;rw [if_pos h0]
    refine Ev.step (f := fun k => spec_l5Reduce.l3 k cols (mixl R F (i + 1)) (at_ : Int) (c : Int) ((i + 1 : Nat) : Int)) (fun k => ?_) (ih (i + 1) (by omega) (by omega))
    simp only [spec_l5Reduce.l3]
    rw [if_pos (by omega), if_neg (by omega), if_pos (by omega), if_pos (by omega), hri, if_pos (by omega), at0_rd, if_pos h0, wrap_id (by omega) (by omega), mixl_same R F i hl hsame]
    rfl
   ·have hcl := clearS_ev R[i] q c (by rw [hlx, hlen q hqm]) (by omega) (by omega) (hsm _ hxm) (hsm q hqm)
    refine Ev.step (f := fun k => (spec_l5Clear.f k R[i] q (c : Int)).bind fun t => spec_l5Reduce.l3 k cols ((mixl R F i).set i t) (at_ : Int) (c : Int) ((i + 1 : Nat) : Int)) (fun k => ?_) (Ev.bind hcl ?_)
    ·simp only [spec_l5Reduce.l3]
     rw [if_pos (by omega), if_neg (by omega), if_pos (by omega), if_pos (by omega), hri, if_pos (by omega), at0_rd, if_neg h0, if_pos (by omega), if_pos (by omega), hra, wrap_id (by omega) (by omega), Int.toNat_natCast]
     rfl
    ·have hFi2 : F[i]? = some (tid (comb R[i] q c)) := by
      rw [hFi]
      unfold clr
      rw [if_neg h0]
     simp only [mixl_set R F i _ hl hFi2]
     exact ih (i + 1) (by omega) (by omega)
theorem specL2 (rows : List (List Int)) (cols : Int) (at_ c : Nat) (r : List (List Int)) (hR : rows.length ≤ 1000) (hlen : ∀ x ∈ rows, c < x.length) (hc2 : c ≤ 1000) (p : Nat) (hp : p ≤ rows.length) (hz : ∀ i x, at_ ≤ i → i < p → rows[i]? = some x → at0 x c = 0) (hnz : ∀ x, rows[p]? = some x → at0 x c ≠ 0)
  (hend : Ev (fun k => spec_l5Reduce.j3 k cols rows (at_ : Int) (c : Int) (p : Int)) r) (d : Nat) : ∀ i : Nat, p - i = d → at_ ≤ i → i ≤ p → Ev (fun k => spec_l5Reduce.l2 k cols rows (at_ : Int) (c : Int) (i : Int)) r := by
 induction d with
|zero =>
  intro i hd ha hi
  obtain rfl : p = i := by omega
  refine Ev.step (f := fun k => spec_l5Reduce.j3 k cols rows (at_ : Int) (c : Int) (p : Int)) (fun k => ?_) hend
  simp only [spec_l5Reduce.l2]
  by_cases h : p < rows.length
  ·have h1 := hnz _ (List.getElem?_eq_getElem h)
   have h2 := hlen _ (List.getElem_mem h)
   rw [if_pos (by omega), if_pos (by omega), if_pos (by omega), rdL_nat rows p h, if_pos (by omega), at0_rd, if_neg h1]
  ·rw [if_neg (by omega)]
|succ d ih =>
  intro i hd ha hi
  have h : i < rows.length := by omega
  have h1 := hz i _ ha (by omega) (List.getElem?_eq_getElem h)
  have h2 := hlen _ (List.getElem_mem h)
  refine Ev.step (f := fun k => spec_l5Reduce.l2 k cols rows (at_ : Int) (c : Int) ((i + 1 : Nat) : Int)) (fun k => ?_) (ih (i + 1) (by omega) (by omega) (by omega))
  simp only [spec_l5Reduce.l2]
  rw [if_pos (by omega), if_pos (by omega), if_pos (by omega), rdL_nat rows i h, if_pos (by omega), at0_rd, if_pos h1, wrap_id (by omega) (by omega)]
  rfl
theorem specL1 {S : V → Prop} {m0 n cols : Nat} (hb : ∀ o, S o → ∀ j, (o j).natAbs ≤ bnd m0 j) (hm0 : m0 ≤ 6) (hn : n ≤ 7) (hcm : cols ≤ m0) (hcn : cols ≤ n) (d : Nat) : ∀ (c : Nat) (P : List (List Int × Nat)) (Q : List (List Int)), c + d = cols → Red S c P Q → (∀ p ∈ P, p.1.length = n) → (∀ q ∈ Q, q.length = n) → P.length + Q.length ≤ 1000 →
  ∃ P' Q', Red S cols P' Q' ∧ (∀ p ∈ P', p.1.length = n) ∧ (∀ q ∈ Q', q.length = n) ∧ P'.length + Q'.length = P.length + Q.length ∧ Ev (fun k => spec_l5Reduce.l1 k (cols : Int) ((P.map (·.1)).reverse ++ Q) (P.length : Int) (c : Int)) ((P'.map (·.1)).reverse ++ Q') := by
 induction d with
|zero =>
  intro c P Q hcd hR hP hQ hl
  obtain rfl : cols = c := by omega
  refine ⟨P, Q, hR, hP, hQ, rfl, ?_⟩
  refine Ev.step (f := fun _ => some ((P.map (·.1)).reverse ++ Q)) (fun k => ?_) (Ev.now _)
  simp only [spec_l5Reduce.l1]
  rw [if_neg (by omega)]
|succ d ih =>
  intro c P Q hcd hR hP hQ hl
  obtain ⟨L, hL⟩ : ∃ L, L = (P.map (·.1)).reverse := ⟨_, rfl⟩
  have hLl : L.length = P.length := by rw [hL];simp
  have hLm : ∀ x ∈ L, ∃ p ∈ P, p.1 = x := fun x hx => by
   rw [hL] at hx
   obtain ⟨p, hp, e⟩ := List.mem_map.1 (List.mem_reverse.1 hx)
   exact ⟨p, hp, e⟩
  have hll : ∀ x ∈ L ++ Q, x.length = n := fun x hx => by
   rcases List.mem_append.1 hx with h|h
   ·obtain ⟨p, hp, rfl⟩ := hLm x h
    exact hP p hp
   ·exact hQ x h
  have hsm : ∀ x ∈ L ++ Q, Small x := fun x hx j => by
   rcases List.mem_append.1 hx with h|h
   ·obtain ⟨p, hp, rfl⟩ := hLm x h
    have := hR.small_piv' hb (by omega) hm0 p hp j
    omega
   ·exact hR.small_rest hb (by omega) hm0 x h j
  have hlen : (L ++ Q).length ≤ 1000 := by rw [List.length_append];omega
  obtain ⟨j, hj⟩ : ∃ j, j = Q.findIdx (fun x => decide (at0 x c ≠ 0)) := ⟨_, rfl⟩
  have hjle : j ≤ Q.length := by rw [hj];exact List.findIdx_le_length
  have hz : ∀ i x, i < j → Q[i]? = some x → at0 x c = 0 := fun i x hi hx => by
   have h1 := List.not_of_lt_findIdx (p := fun x => decide (at0 x c ≠ 0)) (xs := Q) (i := i) (by rw [← hj];exact hi)
   have h2 := (List.getElem?_eq_some_iff.1 hx).2
   rw [h2] at h1
   simpa using h1
  have hl2 : ∀ r, Ev (fun k => spec_l5Reduce.j3 k (cols : Int) (L ++ Q) (P.length : Int) (c : Int) ((P.length + j : Nat) : Int)) r → Ev (fun k => spec_l5Reduce.l1 k (cols : Int) (L ++ Q) (P.length : Int) (c : Int)) r := fun r hr => by
   refine Ev.step (f := fun k => spec_l5Reduce.l2 k (cols : Int) (L ++ Q) (P.length : Int) (c : Int) (P.length : Int)) (fun k => ?_) ?_
   ·simp only [spec_l5Reduce.l1]
    rw [if_pos (by omega)]
   ·refine specL2 (L ++ Q) cols P.length c r hlen (fun x hx => by rw [hll x hx];omega) (by omega) (P.length + j) (by rw [List.length_append];omega) (fun i x h1 h2 hx => ?_) (fun x hx => ?_) hr j P.length (by omega) (by omega) (by omega)
    ·rw [List.getElem?_append_right (by omega)] at hx
     exact hz _ x (by omega) hx
    ·rw [List.getElem?_append_right (by omega), hLl, Nat.add_sub_cancel_left] at hx
     have h1 := (List.getElem?_eq_some_iff.1 hx).1
     have h2 := List.findIdx_getElem (p := fun x => decide (at0 x c ≠ 0)) (xs := Q) (w := by rw [← hj];exact h1)
     have h3 := (List.getElem?_eq_some_iff.1 hx).2
     simp only [← hj, h3] at h2
     simpa using h2
  rw [← hL]
  by_cases hjl : j < Q.length
  ·obtain ⟨q, hq⟩ : ∃ q, q = Q[j] := ⟨_, rfl⟩
   have hqm : q ∈ Q := by rw [hq];exact List.getElem_mem hjl
   have hqc : at0 q c ≠ 0 := by
    have h2 := List.findIdx_getElem (p := fun x => decide (at0 x c ≠ 0)) (xs := Q) (w := by rw [← hj];exact hjl)
    simp only [← hj, ← hq] at h2
    simpa using h2
   have hqt : tid q = q := by
    rcases hR.tq q hqm with h|⟨h, k, h1, h2⟩
    ·exact absurd (h c) hqc
    ·exact tid_tidy q h k h1 h2
   have hst := hR.step (Q' := swp Q j) hP hQ q hqc hqm (by rw [hq];exact swp_all Q j hjl) (swp_sub Q j hjl)
   obtain ⟨P', Q', hR', hP', hQ', hl', hev⟩ := ih (c + 1) _ _ (by omega) hst (fun p hp => by
    rcases List.mem_cons.1 hp with h|h
    ·rw [h];exact hQ q hqm
    ·obtain ⟨p2, hp2, e⟩ := List.mem_map.1 h
     rw [← e]
     show (clr c q p2.1).length = n
     rw [clr_len c q p2.1 (by rw [hP p2 hp2, hQ q hqm]), hP p2 hp2]) (fun r hr => by
    obtain ⟨r2, hr2, e⟩ := List.mem_map.1 hr
    have := hQ r2 (swp_sub Q j hjl r2 hr2)
    rw [← e, clr_len c q r2 (by rw [this, hQ q hqm]), this]) (by
    have := swp_len Q j hjl
    simp only [List.length_cons, List.length_map]
    omega)
   refine ⟨P', Q', hR', hP', hQ', by
    have := swp_len Q j hjl
    simp only [List.length_cons, List.length_map] at hl'
    omega, hl2 _ ?_⟩
   have hrp : rd_L1 (L ++ Q) ((P.length + j : Nat) : Int) = q := by
    rw [rdL_nat _ _ (by rw [List.length_append];omega), List.getElem_append_right (by omega), hq]
    congr 1
    omega
   have hra : rd_L1 (L ++ Q) (P.length : Int) = Q.getD 0 [] := by
    rw [rdL_nat _ _ (by rw [List.length_append];omega), List.getElem_append_right (by omega), List.getD_eq_getElem?_getD, List.getElem?_eq_getElem (by omega)]
    show Q[_] = Q[0]
    congr 1
    omega
   have htd := tidyS_ev q (by rw [hQ q hqm];omega) (fun i => by have := hsm q (List.mem_append_right _ hqm) i;omega)
   rw [hqt] at htd
   refine Ev.step (f := fun k => (spec_l5Tidy.f k q).bind fun t => spec_l5Reduce.l3 k (cols : Int) (((L ++ Q).set (P.length + j) (Q.getD 0 [])).set P.length t) (P.length : Int) (c : Int) 0) (fun k => ?_) (Ev.bind htd ?_)
   ·simp only [spec_l5Reduce.j3]
    rw [if_neg (by rw [List.length_append];omega), if_pos (by omega), if_pos (by rw [List.length_append];omega), if_pos (by omega), if_pos (by rw [List.length_append];omega), hrp, hra, Int.toNat_natCast, Int.toNat_natCast]
   ·have hset := swp_set L Q j q hjl
    rw [hLl] at hset
    simp only [hset]
    have hFe : (((q, c) :: P.map fun p => (clr c q p.1, p.2)).map (·.1)).reverse ++ (swp Q j).map (clr c q) = L.map (clr c q) ++ q :: (swp Q j).map (clr c q) := by
     rw [hL]
     simp [List.map_reverse, List.map_map, Function.comp_def]
    rw [hFe] at hev
    have hall : ∀ x ∈ L ++ q :: swp Q j, x ∈ L ++ Q := fun x hx => by
     rcases List.mem_append.1 hx with h|h
     ·exact List.mem_append_left _ h
     ·rcases List.mem_cons.1 h with h|h
      ·rw [h];exact List.mem_append_right _ hqm
      ·exact List.mem_append_right _ (swp_sub Q j hjl x h)
    have hsl := swp_len Q j hjl
    have h3 := specL3 (α := fun _ => none) (L ++ q :: swp Q j) (L.map (clr c q) ++ q :: (swp Q j).map (clr c q)) cols P.length c n q _ (by simp) (by simp;omega) (by simp;omega) (by rw [List.getElem?_append_right (by omega), hLl, Nat.sub_self];rfl)
     (by rw [List.getElem?_append_right (by rw [List.length_map];omega), List.length_map, hLl, Nat.sub_self];rfl) (by omega) (by omega) (fun x hx => hll x (hall x hx)) (fun x hx => hsm x (hall x hx)) (fun i x hi hx => by
      rcases Nat.lt_or_ge i L.length with h|h
      ·rw [List.getElem?_append_left h] at hx
       rw [List.getElem?_append_left (by rw [List.length_map];exact h), List.getElem?_map, hx]
       rfl
      ·rw [List.getElem?_append_right h] at hx
       rw [List.getElem?_append_right (by rw [List.length_map];exact h), List.length_map]
       obtain ⟨e, he⟩ : ∃ e, i - L.length = e + 1 := ⟨i - L.length - 1, by omega⟩
       rw [he] at hx ⊢
       simp only [List.getElem?_cons_succ] at hx ⊢
       rw [List.getElem?_map, hx]
       rfl) (by omega) (by
      simp only [List.length_cons, List.length_map] at hev
      exact hev) _ 0 rfl (by omega)
    rw [mixl_zero] at h3
    exact h3
  ·obtain rfl : j = Q.length := by omega
   obtain ⟨P', Q', hR', hP', hQ', hl', hev⟩ := ih (c + 1) P Q (by omega) (hR.skip fun q hq => by
    obtain ⟨i, hi, rfl⟩ := List.getElem_of_mem hq
    exact hz i _ hi (List.getElem?_eq_getElem hi)) hP hQ hl
   rw [← hL] at hev
   refine ⟨P', Q', hR', hP', hQ', hl', hl2 _ ?_⟩
   refine Ev.step (f := fun k => spec_l5Reduce.l1 k (cols : Int) (L ++ Q) (P.length : Int) ((c + 1 : Nat) : Int)) (fun k => ?_) hev
   simp only [spec_l5Reduce.j3]
   rw [if_pos (by rw [List.length_append];omega), wrap_id (by omega) (by omega)]
   rfl
theorem specL0 (m : List (List Int)) (cols : Int) (r : List (List Int)) (hm : m.length ≤ 1000) (hl : ∀ x ∈ m, x.length ≤ 16777216) (hs : ∀ x ∈ m, ∀ j, (at0 x j).natAbs < 9223372036854775808)
  (hend : Ev (fun k => spec_l5Reduce.l1 k cols (m.map tid) 0 0) r) (d : Nat) : ∀ i : Nat, m.length - i = d → i ≤ m.length → Ev (fun k => spec_l5Reduce.l0 k m cols ((m.map tid).take i) (i : Int)) r := by
 induction d with
|zero =>
  intro i hd hi
  rw [List.take_of_length_le (by rw [List.length_map];omega)]
  refine Ev.step (f := fun k => spec_l5Reduce.l1 k cols (m.map tid) 0 0) (fun k => ?_) hend
  simp only [spec_l5Reduce.l0]
  rw [if_neg (by omega)]
|succ d ih =>
  intro i hd hi
  have h : i < m.length := by omega
  have htd := tidyS_ev m[i] (hl _ (List.getElem_mem h)) (hs _ (List.getElem_mem h))
  refine Ev.step (f := fun k => (spec_l5Tidy.f k m[i]).bind fun t => spec_l5Reduce.l0 k m cols ((m.map tid).take i ++ [t]) ((i + 1 : Nat) : Int)) (fun k => ?_) (Ev.bind htd ?_)
  ·simp only [spec_l5Reduce.l0]
   have h5 : ((m.map tid).take i).length < 5864062014805 := by rw [List.length_take];omega
   rw [if_pos (by omega), if_pos (by omega), rdL_nat m i h, wrap_id (by omega) (by omega)]
   simp only [if_pos h5]
   rfl
  ·have e : (m.map tid).take i ++ [tid m[i]] = (m.map tid).take (i + 1) := by
    rw [List.take_succ_eq_append_getElem (by rw [List.length_map];exact h), List.getElem_map]
   simp only [e]
   exact ih (i + 1) (by omega) (by omega)
theorem specRed {m : List (List Int)} {m0 n cols : Nat} (h : Okm m m0 n) (hc : cols ≤ m0) (hcn : cols ≤ n) : ∃ P Q, Red (RowSp m) cols P Q ∧ (∀ p ∈ P, p.1.length = n) ∧ (∀ q ∈ Q, q.length = n) ∧ P.length + Q.length = m.length ∧ Ev (fun k => spec_l5Reduce.f k m (cols : Int)) ((P.map (·.1)).reverse ++ Q) := by
 have h1 := h.pos;have h2 := h.cols;have h3 := h.le6;have h4 := h.rows
 obtain ⟨P, Q, hR, hP, hQ, hl, hev⟩ := specL1 h.start.1 h.le6 (by omega) hc hcn cols 0 [] (m.map tid) (by omega) (Red.start m) (by simp) (fun q hq => by
  obtain ⟨r, hr, rfl⟩ := List.mem_map.1 hq
  rw [tid_len, h.len r hr]) (by simp;omega)
 refine ⟨P, Q, hR, hP, hQ, by simpa using hl, ?_⟩
 unfold spec_l5Reduce.f
 exact specL0 m cols _ h.rows (fun x hx => by rw [h.len x hx];omega) h.start.2 (by simpa using hev) m.length 0 (by omega) (by omega)
theorem isMat_iff (m : List (List Int)) (c : Int) : isMat m c = true ↔ (1 ≤ c ∧ c ≤ 6) ∧ m.length ≤ 12 ∧ ∀ r ∈ m, (r.length : Int) = c ∧ ∀ x ∈ r, -2 ≤ x ∧ x ≤ 2 := by
 unfold isMat rowOk
 simp only [Bool.and_eq_true, decide_eq_true_eq, List.all_eq_true]
 constructor
 ·rintro ⟨⟨h1, h2⟩, h3⟩
  exact ⟨h1, h2, h3⟩
 ·rintro ⟨h1, h2, h3⟩
  exact ⟨⟨h1, h2⟩, h3⟩
theorem red_rest {S : V → Prop} {c n : Nat} {P : List (List Int × Nat)} {Q : List (List Int)} (h : Red S c P Q) (hcn : n ≤ c) (hQ : ∀ q ∈ Q, q.length = n) : ∀ q ∈ Q, ∀ j, at0 q j = 0 := fun q hq j => by
 rcases Nat.lt_or_ge j c with hj | hj
 ·exact h.low q hq j hj
 ·exact at0_out (by rw [hQ q hq]; omega)
theorem okm_of_isMat {m : List (List Int)} {c : Int} (h : isMat m c = true) : ∃ n : Nat, c = (n : Int) ∧ Okm m n n ∧ m.length ≤ 12 := by
 have h' := (isMat_iff m c).1 h
 obtain ⟨h1, h2, h3⟩ := h'
 refine ⟨c.toNat, by omega, ⟨by omega, by omega, by omega, by omega, fun r hr => ?_, fun r hr j => ?_⟩, h2⟩
 ·have := (h3 r hr).1
  omega
 ·have h4 := h3 r hr
  rcases Nat.lt_or_ge j r.length with hj|hj
  ·rw [at0_lt hj]
   have h5 := h4.2 _ (List.getElem_mem hj)
   unfold bnd
   rw [if_pos (by omega)]
   omega
  ·rw [at0_out hj]
   simp
def aug (m : List (List Int)) (v : List Int) : List (List Int) := List.zipWith (fun r x => r ++ [x]) m v
theorem aug_len (m : List (List Int)) (v : List Int) (h : v.length = m.length) : (aug m v).length = m.length := by
 unfold aug
 rw [List.length_zipWith]
 omega
theorem aug_get (m : List (List Int)) (v : List Int) (i : Nat) (h1 : i < m.length) (h2 : i < v.length) : (aug m v)[i]? = some (m[i] ++ [v[i]]) := by
 unfold aug
 rw [List.getElem?_zipWith, List.getElem?_eq_getElem h1, List.getElem?_eq_getElem h2]
theorem aug_take (m : List (List Int)) (v : List Int) (i : Nat) (h : v.length = m.length) (h1 : i < m.length) : (aug m v).take i ++ [m[i] ++ [v[i]'(by omega)]] = (aug m v).take (i + 1) := by
 have hl := aug_len m v h
 rw [List.take_succ_eq_append_getElem (by omega)]
 congr 2
 have := aug_get m v i h1 (by omega)
 rw [List.getElem?_eq_getElem (by omega)] at this
 exact (Option.some.inj this).symm
theorem at0_append (r : List Int) (x : Int) (j : Nat) : at0 (r ++ [x]) j = if j < r.length then at0 r j else if j = r.length then x else 0 := by
 unfold at0
 rw [List.getD_eq_getElem?_getD, List.getD_eq_getElem?_getD]
 by_cases h1 : j < r.length
 ·rw [if_pos h1, List.getElem?_append_left h1]
 ·rw [if_neg h1, List.getElem?_append_right (by omega)]
  by_cases h2 : j = r.length
  ·subst h2
   rw [if_pos rfl, Nat.sub_self]
   rfl
  ·rw [if_neg h2, List.getElem?_eq_none (by simp; omega)]
   rfl
theorem isSys_iff (m : List (List Int)) (v : List Int) (c : Int) : isSys m v c = true ↔ isMat m c = true ∧ v.length = m.length ∧ ∀ x ∈ v, -1000 ≤ x ∧ x ≤ 1000 := by
 unfold isSys
 simp only [Bool.and_eq_true, decide_eq_true_eq, List.all_eq_true]
 constructor
 ·intro h
  obtain ⟨h1, h2⟩ := h
  first
   | exact ⟨h1.1, by omega, h2⟩
   | exact ⟨h1, by omega, h2.2⟩
   | exact ⟨h2.1, by omega, h1⟩
 ·rintro ⟨h1, h2, h3⟩
  first
   | exact ⟨⟨h1, by omega⟩, h3⟩
   | exact ⟨h1, by omega, h3⟩
   | exact ⟨h3, h1, by omega⟩
theorem okm_aug {m : List (List Int)} {v : List Int} {n : Nat} (h : Okm m n n) (hv : v.length = m.length) (hs : ∀ x ∈ v, -1000 ≤ x ∧ x ≤ 1000) : Okm (aug m v) n (n + 1) := by
 have hmem : ∀ r ∈ aug m v, ∃ r0 ∈ m, ∃ x ∈ v, r = r0 ++ [x] := fun r hr => by
  obtain ⟨i, hi⟩ := List.getElem?_of_mem hr
  have hl := aug_len m v hv
  have hlt := (List.getElem?_eq_some_iff.1 hi).1
  rw [aug_get m v i (by omega) (by omega)] at hi
  cases hi
  exact ⟨_, List.getElem_mem _, _, List.getElem_mem _, rfl⟩
 refine ⟨by omega, Nat.le_refl _, h.le6, by rw [aug_len m v hv];exact h.rows, fun r hr => ?_, fun r hr j => ?_⟩
 ·obtain ⟨r0, h0, x, hx, rfl⟩ := hmem r hr
  simp [h.len r0 h0]
 ·obtain ⟨r0, h0, x, hx, rfl⟩ := hmem r hr
  rw [at0_append, h.len r0 h0]
  by_cases h1 : j < n
  ·rw [if_pos h1]
   exact h.small r0 h0 j
  ·rw [if_neg h1]
   by_cases h2 : j = n
   ·rw [if_pos h2]
    have := hs x hx
    unfold bnd
    rw [if_neg h1]
    omega
   ·rw [if_neg h2]
    simp
theorem solvedI_l0 (m : List (List Int)) (v : List Int) (c : Int) (r : List (List Int) × Bool) (hv : v.length = m.length) (hm : m.length ≤ 1000) (hr : ∀ x ∈ m, x.length ≤ 16777216)
  (hend : Ev (fun k => (impl_reduceAny.f k (aug m v) (wrap64 (c + 1))).bind fun t => impl_solved.l1 k c t t (t.length : Int) 0) r) (d : Nat) : ∀ i : Nat, m.length - i = d → i ≤ m.length → Ev (fun k => impl_solved.l0 k v c ((aug m v).take i) m (m.length : Int) (i : Int)) r := by
 have hal := aug_len m v hv
 induction d with
|zero =>
  intro i hd hi
  rw [List.take_of_length_le (by omega)]
  refine Ev.step (fun k => ?_) hend
  simp only [impl_solved.l0]
  rw [if_neg (by omega)]
|succ d ih =>
  intro i hd hi
  have h : i < m.length := by omega
  have hx := hr _ (List.getElem_mem h)
  have hc : slices_Clone_int_int_95.f m[i] = some m[i] := by
   unfold slices_Clone_int_int_95.f
   simp only [Option.bind_some, List.length_nil, List.nil_append, Nat.zero_add]
   rw [if_pos (by omega)]
  have hrv : rd v (i : Int) = v[i]'(by omega) := rd_nat v i (by omega)
  refine Ev.step (f := fun k => impl_solved.l0 k v c ((aug m v).take (i + 1)) m (m.length : Int) ((i + 1 : Nat) : Int)) (fun k => ?_) (ih (i + 1) (by omega) (by omega))
  simp only [impl_solved.l0]
  rw [if_pos (by omega), if_pos (by omega), if_pos (by omega), rdL_nat m i h, hc]
  have h5 : ((aug m v).take i).length + [m[i] ++ [v[i]'(by omega)]].length < 5864062014805 := by rw [List.length_take];simp;omega
  have h6 : m[i].length + [v[i]'(by omega)].length < 17592186044416 := by simp;omega
  simp only [Option.bind_some, if_pos (show (i : Int) < (v.length : Int) by omega), hrv, if_pos h6, if_pos h5]
  rw [aug_take m v i hv h, wrap_id (by omega) (by omega)]
  rfl
theorem l6Rows_l0 (m : List (List Int)) (v : List Int) (c : Int) (r : List (List Int)) (hv : v.length = m.length) (hm : m.length ≤ 1000) (hr : ∀ x ∈ m, x.length ≤ 16777216)
  (hend : Ev (fun k => spec_l5Reduce.f k (aug m v) c) r) (d : Nat) : ∀ i : Nat, m.length - i = d → i ≤ m.length → Ev (fun k => spec_l6Rows.l0 k m v c ((aug m v).take i) (i : Int)) r := by
 have hal := aug_len m v hv
 induction d with
|zero =>
  intro i hd hi
  rw [List.take_of_length_le (by omega)]
  refine Ev.step (f := fun k => (spec_l5Reduce.f k (aug m v) c).bind fun t => some t) (fun k => ?_) (Ev.bind hend (Ev.now _))
  simp only [spec_l6Rows.l0]
  rw [if_neg (by omega)]
|succ d ih =>
  intro i hd hi
  have h : i < m.length := by omega
  have hx := hr _ (List.getElem_mem h)
  have hrv : rd v (i : Int) = v[i]'(by omega) := rd_nat v i (by omega)
  refine Ev.step (f := fun k => spec_l6Rows.l0 k m v c ((aug m v).take (i + 1)) ((i + 1 : Nat) : Int)) (fun k => ?_) (ih (i + 1) (by omega) (by omega))
  simp only [spec_l6Rows.l0]
  rw [if_pos (by omega)]
  have h4 : 0 + m[i].length < 17592186044416 := by omega
  have h5 : ((aug m v).take i).length + [m[i] ++ [v[i]'(by omega)]].length < 5864062014805 := by rw [List.length_take];simp;omega
  have h6 : m[i].length + [v[i]'(by omega)].length < 17592186044416 := by simp;omega
  simp only [Option.bind_some, if_pos (show (0 : Int) ≤ (i : Int) by omega), rdL_nat m i h, List.length_nil, List.nil_append, if_pos h4, if_pos (show (i : Int) < (v.length : Int) by omega), hrv, if_pos h6, if_pos h5]
  rw [aug_take m v i hv h, wrap_id (by omega) (by omega)]
  rfl
def bad (c : Nat) (R : List (List Int)) : Bool := R.any fun x => decide (ld x = c ∧ c < x.length)
theorem solvedI_l1 (R : List (List Int)) (c : Nat) (hR : R.length ≤ 1000) (hr : ∀ x ∈ R, x.length ≤ 16777216) (d : Nat) : ∀ i : Nat, R.length - i = d → i ≤ R.length → Ev (fun k => impl_solved.l1 k (c : Int) R R (R.length : Int) (i : Int)) (if bad c (R.drop i) then ([], false) else (R, true)) := by
 induction d with
|zero =>
  intro i hd hi
  rw [List.drop_eq_nil_of_le (by omega)]
  refine Ev.step (f := fun _ => some (R, true)) (fun k => ?_) (Ev.now _)
  simp only [impl_solved.l1]
  rw [if_neg (by omega)]
|succ d ih =>
  intro i hd hi
  have h : i < R.length := by omega
  have hlead := leadI_ev R[i] (hr _ (List.getElem_mem h))
  refine Ev.step (f := fun k => (impl_lead.f k R[i]).bind fun t => if t = (c : Int) then some ([], false) else impl_solved.l1 k (c : Int) R R (R.length : Int) ((i + 1 : Nat) : Int)) (fun k => ?_) (Ev.bind hlead ?_)
  ·simp only [impl_solved.l1]
   rw [if_pos (by omega), if_pos (by omega), if_pos (by omega), rdL_nat R i h, wrap_id (by omega) (by omega)]
   rfl
  ·rw [List.drop_eq_getElem_cons h]
   by_cases e : ld R[i] = c ∧ c < R[i].length
   ·have hb : bad c (R[i] :: R.drop (i + 1)) = true := by
     simp only [bad, List.any_cons, decide_eq_true e, Bool.true_or]
    simp only [if_pos (show ld R[i] < R[i].length by omega), if_pos (show (ld R[i] : Int) = (c : Int) by omega), hb, if_true]
    exact Ev.now _
   ·have hb : bad c (R[i] :: R.drop (i + 1)) = bad c (R.drop (i + 1)) := by
     simp only [bad, List.any_cons, decide_eq_false e, Bool.false_or]
    rw [hb]
    simp only [if_neg (show ¬ (if ld R[i] < R[i].length then (ld R[i] : Int) else -1) = (c : Int) by split <;> omega)]
    exact ih (i + 1) (by omega) (by omega)
theorem l6Good_l0 (R : List (List Int)) (c : Nat) (hR : R.length ≤ 1000) (hr : ∀ x ∈ R, x.length ≤ 16777216) (hc : ∀ x ∈ R, c < x.length) (d : Nat) : ∀ i : Nat, R.length - i = d → i ≤ R.length → Ev (fun k => spec_l6Good.l0 k R (c : Int) (i : Int)) (!bad c (R.drop i)) := by
 induction d with
|zero =>
  intro i hd hi
  rw [List.drop_eq_nil_of_le (by omega)]
  refine Ev.step (f := fun _ => some true) (fun k => ?_) (Ev.now _)
  simp only [spec_l6Good.l0]
  rw [if_neg (by omega)]
|succ d ih =>
  intro i hd hi
  have h : i < R.length := by omega
  have hlead := leadS_ev R[i] (hr _ (List.getElem_mem h))
  have hcx := hc _ (List.getElem_mem h)
  refine Ev.step (f := fun k => (spec_l5Lead.f k R[i]).bind fun t => if t = (c : Int) then some false else spec_l6Good.l0 k R (c : Int) ((i + 1 : Nat) : Int)) (fun k => ?_) (Ev.bind hlead ?_)
  ·simp only [spec_l6Good.l0]
   rw [if_pos (by omega), if_pos (by omega), rdL_nat R i h, wrap_id (by omega) (by omega)]
   rfl
  ·rw [List.drop_eq_getElem_cons h]
   by_cases e : ld R[i] = c
   ·have hb : bad c (R[i] :: R.drop (i + 1)) = true := by
     simp only [bad, List.any_cons, decide_eq_true (show ld R[i] = c ∧ c < R[i].length from ⟨e, hcx⟩), Bool.true_or]
    simp only [if_pos (show (ld R[i] : Int) = (c : Int) by omega), hb]
    exact Ev.now _
   ·have hb : bad c (R[i] :: R.drop (i + 1)) = bad c (R.drop (i + 1)) := by
     simp only [bad, List.any_cons, decide_eq_false (show ¬ (ld R[i] = c ∧ c < R[i].length) from fun h => e h.1), Bool.false_or]
    rw [hb]
    simp only [if_neg (show ¬ (ld R[i] : Int) = (c : Int) by omega)]
    exact ih (i + 1) (by omega) (by omega)
theorem bad_iff (c : Nat) (R : List (List Int)) : bad c R = true ↔ ∃ x ∈ R, ld x = c ∧ c < x.length := by
 unfold bad
 simp only [List.any_eq_true, decide_eq_true_eq]
structure Solved (m : List (List Int)) (v : List Int) (n : Nat) (P : List (List Int × Nat)) (Q : List (List Int)) : Prop where
 okm : Okm m n n
 oka : Okm (aug m v) n (n + 1)
 red : Red (RowSp (aug m v)) n P Q
 lenP : ∀ p ∈ P, p.1.length = n + 1
 lenQ : ∀ q ∈ Q, q.length = n + 1
 zero : ∀ q ∈ Q, ∀ j, at0 q j = 0
 cnt : P.length + Q.length = m.length
theorem solved_both (m : List (List Int)) (v : List Int) (c : Int) (hm : m.length ≤ 16777216) (hr : ∀ x ∈ m, x.length ≤ 16777216) (hv : v.length ≤ 16777216) : ∃ (ok : Bool) (R : List (List Int)), Ev (fun k => impl_solved.f k m v c) (R, ok) ∧ Ev (fun k => spec_IsSolvable.f k m v c) ok ∧ R.length ≤ 1000 ∧ (∀ x ∈ R, x.length ≤ 1000) ∧
  (ok = false → R = []) ∧ (ok = true → isSys m v c = true ∧ ∃ (n : Nat) (P : List (List Int × Nat)) (Q : List (List Int)), c = (n : Int) ∧ Solved m v n P Q ∧ R = (P.map (·.1)).reverse ∧ Ev (fun k => spec_l6Rows.f k m v c) ((P.map (·.1)).reverse ++ Q)) := by
 have hsi := implSys_ev m v hm hr hv c
 have hss := specSys_ev m v hm hr hv c
 cases hb : isSys m v c with
|false =>
  rw [hb] at hsi hss
  refine ⟨false, [], ?_, ?_, by simp, by simp, by simp, by simp⟩
  ·unfold impl_solved.f
   refine Ev.bind hsi ?_
   simp only [Bool.false_eq_true, if_false]
   exact Ev.now _
  ·unfold spec_IsSolvable.f
   refine Ev.bind hss ?_
   simp only [Bool.false_eq_true, if_false]
   exact Ev.now _
|true =>
  rw [hb] at hsi hss
  obtain ⟨hmat, hvl, hvs⟩ := (isSys_iff m v c).1 hb
  obtain ⟨n, rfl, hok, hm12⟩ := okm_of_isMat hmat
  have h1 := hok.pos;have h3 := hok.le6
  have hoa := okm_aug hok hvl hvs
  obtain ⟨P, Q, hR, hP, hQ, hevI⟩ := implRed hoa
  obtain ⟨P2, Q2, hR2, hP2, hQ2, hl2, hevS⟩ := specRed hoa (cols := n) (Nat.le_refl _) (by omega)
  have hPl := hR.len
  have hP2l := hR2.len
  have hal := aug_len m v hvl
  have hI : Ev (fun k => impl_solved.f k m v (n : Int)) (if bad n (P.map (·.1)).reverse then ([], false) else ((P.map (·.1)).reverse, true)) := by
   unfold impl_solved.f
   refine Ev.bind hsi ?_
   simp only [if_true]
   refine solvedI_l0 m v n _ hvl hok.rows hr ?_ m.length 0 (by omega) (by omega)
   rw [wrap_id (by omega) (by omega)]
   refine Ev.bind hevI ?_
   exact solvedI_l1 _ n (by simp;omega) (fun x hx => by
    obtain ⟨p, hp, rfl⟩ := List.mem_map.1 (List.mem_reverse.1 hx)
    rw [hP p hp];omega) _ 0 rfl (by omega)
  have hS6 : Ev (fun k => spec_l6Rows.f k m v (n : Int)) ((P2.map (·.1)).reverse ++ Q2) := by
   unfold spec_l6Rows.f
   exact l6Rows_l0 m v n _ hvl hok.rows hr hevS m.length 0 (by omega) (by omega)
  have hlen2 : ∀ x ∈ (P2.map (·.1)).reverse ++ Q2, x.length = n + 1 := fun x hx => by
   rcases List.mem_append.1 hx with h|h
   ·obtain ⟨p, hp, rfl⟩ := List.mem_map.1 (List.mem_reverse.1 h)
    exact hP2 p hp
   ·exact hQ2 x h
  have hS : Ev (fun k => spec_IsSolvable.f k m v (n : Int)) (!bad n ((P2.map (·.1)).reverse ++ Q2)) := by
   unfold spec_IsSolvable.f
   refine Ev.bind hss ?_
   simp only [if_true]
   refine Ev.bind hS6 ?_
   refine Ev.bind ?_ (Ev.now _)
   exact l6Good_l0 _ n (by simp;omega) (fun x hx => by rw [hlen2 x hx];omega) (fun x hx => by rw [hlen2 x hx];omega) _ 0 rfl (by omega)
  have hb1 : bad n (P.map (·.1)).reverse = true ↔ ∃ w, Sp (RowSp (aug m v)) w ∧ (∀ j, j < n → w j = 0) ∧ w n ≠ 0 := by
   rw [bad_iff]
   constructor
   ·rintro ⟨x, hx, hld, hlt⟩
    obtain ⟨p, hp, rfl⟩ := List.mem_map.1 (List.mem_reverse.1 hx)
    have hne := ld_ne p.1 (by omega)
    rw [hld] at hne
    exact ⟨at0 p.1, hR.st.inP p hp, fun j hj => ld_low p.1 j (by omega), hne⟩
   ·rintro ⟨w, hw, h0, hne⟩
    have hk := hR.piv_of (k := n) (by omega) hw h0 hne
    obtain ⟨p, hp, e⟩ := List.mem_map.1 hk
    refine ⟨p.1, by simp;exact ⟨_, hp⟩, ?_, by rw [hP p hp];omega⟩
    rw [← e]
    exact ld_eq p.1 p.2 (hR.lead p hp) (by have := hR.pos p hp;omega)
  have hb2 : bad n ((P2.map (·.1)).reverse ++ Q2) = true ↔ ∃ q ∈ Q2, at0 q n ≠ 0 := by
   rw [bad_iff]
   constructor
   ·rintro ⟨x, hx, hld, hlt⟩
    have hne := ld_ne x (by omega)
    rw [hld] at hne
    rcases List.mem_append.1 hx with h|h
    ·obtain ⟨p, hp, rfl⟩ := List.mem_map.1 (List.mem_reverse.1 h)
     have h4 := ld_eq p.1 p.2 (hR2.lead p hp) (by have := hR2.pos p hp;omega)
     have h5 := hR2.ncol p hp
     omega
    ·exact ⟨x, h, hne⟩
   ·rintro ⟨q, hq, hne⟩
    exact ⟨q, List.mem_append_right _ hq, ld_eq q n (fun j hj => hR2.low q hq j hj) hne, by rw [hQ2 q hq];omega⟩
  have hb12 : bad n (P.map (·.1)).reverse = bad n ((P2.map (·.1)).reverse ++ Q2) := by
   rw [Bool.eq_iff_iff, hb1, hb2]
   constructor
   ·rintro ⟨w, hw, h0, hne⟩
    refine Classical.byContradiction fun hno => hne ?_
    have hz : ∀ q ∈ Q2, ∀ j, at0 q j = 0 := fun q hq j => by
     rcases Nat.lt_trichotomy j n with h|h|h
     ·exact hR2.low q hq j h
     ·subst h
      exact Classical.byContradiction fun h => hno ⟨q, hq, h⟩
     ·exact at0_out (by rw [hQ2 q hq];omega)
    exact zero_of_piv hR2.st.piv (hR2.span hz hw) (fun p hp => h0 _ (hR2.ncol p hp)) n
   ·rintro ⟨q, hq, hne⟩
    exact ⟨at0 q, hR2.st.inQ q hq, fun j hj => hR2.low q hq j hj, hne⟩
  cases hbb : bad n ((P2.map (·.1)).reverse ++ Q2) with
 |true =>
   rw [hb12, hbb] at hI
   simp only [if_true] at hI
   rw [hbb] at hS
   exact ⟨false, [], hI, hS, by simp, by simp, by simp, by simp⟩
 |false =>
   rw [hb12, hbb] at hI
   simp only [Bool.false_eq_true, if_false] at hI
   rw [hbb] at hS
   have hz2 : ∀ q ∈ Q2, ∀ j, at0 q j = 0 := fun q hq j => by
    rcases Nat.lt_trichotomy j n with h|h|h
    ·exact hR2.low q hq j h
    ·subst h
     refine Classical.byContradiction fun h => ?_
     have := hb2.2 ⟨q, hq, h⟩
     rw [hbb] at this
     cases this
    ·exact at0_out (by rw [hQ2 q hq];omega)
   have heq : P2 = P := (hR2.skip fun q hq => hz2 q hq n).eq hz2 hR (fun v => Iff.rfl) hP2 hP
   subst heq
   refine ⟨true, (P2.map (·.1)).reverse, hI, hS, by simp;omega, fun x hx => ?_, by simp, fun _ => ⟨rfl, n, P2, Q2, rfl, ⟨hok, hoa, hR2, hP2, hQ2, hz2, by omega⟩, rfl, hS6⟩⟩
   obtain ⟨p, hp, rfl⟩ := List.mem_map.1 (List.mem_reverse.1 hx)
   rw [hP2 p hp];omega
theorem specRR_l0 (rows : List (List Int)) (cols : Nat) (hr : rows.length ≤ 1000) (hl : ∀ x ∈ rows, x.length ≤ 16777216) (hc : cols ≤ 1000) (d : Nat) : ∀ i : Nat, rows.length - i = d → i ≤ rows.length → Ev (fun k => spec_ReduceRows.l0 k (cols : Int) ((rows.take i).filter fun x => decide (ld x < cols)) rows (i : Int)) (rows.filter fun x => decide (ld x < cols)) := by
 induction d with
|zero =>
  intro i hd hi
  rw [List.take_of_length_le (by omega)]
  refine Ev.step (f := fun _ => some (rows.filter fun x => decide (ld x < cols))) (fun k => ?_) (Ev.now _)
  simp only [spec_ReduceRows.l0]
  rw [if_neg (by omega)]
|succ d ih =>
  intro i hd hi
  have h : i < rows.length := by omega
  have hx := hl _ (List.getElem_mem h)
  have hlead := leadS_ev rows[i] hx
  have ht : rows.take (i + 1) = rows.take i ++ [rows[i]] := List.take_succ_eq_append_getElem h
  have hfl : ((rows.take i).filter fun x => decide (ld x < cols)).length ≤ 1000 := by
   have h1 := List.length_filter_le (fun x => decide (ld x < cols)) (rows.take i)
   have h2 : (rows.take i).length ≤ rows.length := by rw [List.length_take];omega
   omega
  have hih := ih (i + 1) (by omega) (by omega)
  rw [ht, List.filter_append] at hih
  refine Ev.step (f := fun k => (spec_l5Lead.f k rows[i]).bind fun t => if t < (cols : Int) then spec_ReduceRows.l0 k (cols : Int) (((rows.take i).filter fun x => decide (ld x < cols)) ++ [rows[i]]) rows ((i + 1 : Nat) : Int) else spec_ReduceRows.l0 k (cols : Int) ((rows.take i).filter fun x => decide (ld x < cols)) rows ((i + 1 : Nat) : Int)) (fun k => ?_) (Ev.bind hlead ?_)
  ·simp only [spec_ReduceRows.l0]
   rw [if_pos (by omega), if_pos (by omega), rdL_nat rows i h, wrap_id (by omega) (by omega)]
   have h4 : rows[i].length < 17592186044416 := by omega
   have h5 : ((rows.take i).filter fun x => decide (ld x < cols)).length < 5864062014805 := by omega
   simp only [Option.bind_some, List.nil_append, List.length_nil, Nat.zero_add, if_pos h4, if_pos h5]
   rfl
  ·by_cases hlt : ld rows[i] < cols
   ·have e : [rows[i]].filter (fun x => decide (ld x < cols)) = [rows[i]] := by simp [hlt]
    rw [e] at hih
    simp only [if_pos (show (ld rows[i] : Int) < (cols : Int) by omega)]
    exact hih
   ·have e : [rows[i]].filter (fun x => decide (ld x < cols)) = [] := by simp;omega
    rw [e, List.append_nil] at hih
    simp only [if_neg (show ¬ (ld rows[i] : Int) < (cols : Int) by omega)]
    exact hih
theorem red_kept {S : V → Prop} {c n : Nat} {P : List (List Int × Nat)} {Q : List (List Int)} (h : Red S c P Q) (hcn : c ≤ n) (hQ : ∀ q ∈ Q, q.length = n) : ((P.map (·.1)).reverse ++ Q).filter (fun x => decide (ld x < c)) = (P.map (·.1)).reverse := by
 rw [List.filter_append, List.filter_eq_self.2, List.filter_eq_nil_iff.2, List.append_nil]
 ·intro q hq
  have h1 : c ≤ ld q := Nat.le_of_not_lt fun hlt => ld_ne q (by rw [hQ q hq]; omega) (h.low q hq _ hlt)
  simpa using h1
 ·intro x hx
  obtain ⟨p, hp, rfl⟩ := List.mem_map.1 (List.mem_reverse.1 hx)
  have h1 := ld_eq p.1 p.2 (h.lead p hp) (by have := h.pos p hp; omega)
  have h2 := h.ncol p hp
  simp
  omega
theorem specRR_ev (m : List (List Int)) (c : Int) (hm : m.length ≤ 16777216) (hr : ∀ x ∈ m, x.length ≤ 16777216) : ∃ R : List (List Int), Ev (fun k => spec_ReduceRows.f k m c) R ∧ R.length ≤ 1000 ∧ (∀ x ∈ R, x.length ≤ 1000) ∧
  (isMat m c = true → ∃ (n : Nat) (P : List (List Int × Nat)) (Q : List (List Int)), c = (n : Int) ∧ Okm m n n ∧ Red (RowSp m) n P Q ∧ (∀ p ∈ P, p.1.length = n) ∧ (∀ q ∈ Q, ∀ j, at0 q j = 0) ∧ R = (P.map (·.1)).reverse) ∧ (isMat m c = false → R = []) := by
 have hms := specMat_ev m hm hr c
 cases hb : isMat m c with
|false =>
  rw [hb] at hms
  refine ⟨[], ?_, by simp, by simp, by simp, by simp⟩
  unfold spec_ReduceRows.f
  simp only [Option.bind_some]
  refine Ev.bind hms ?_
  simp only [Bool.false_eq_true, if_false]
  exact Ev.now _
|true =>
  rw [hb] at hms
  obtain ⟨n, rfl, hok, hm12⟩ := okm_of_isMat hb
  have h1 := hok.pos;have h3 := hok.le6
  obtain ⟨P, Q, hR, hP, hQ, hl2, hevS⟩ := specRed hok (cols := n) (Nat.le_refl _) (Nat.le_refl _)
  have hz := red_rest hR (Nat.le_refl _) hQ
  have hPl := hR.len
  have hfin := specRR_l0 ((P.map (·.1)).reverse ++ Q) n (by rw [List.length_append, List.length_reverse, List.length_map];omega) (fun x hx => by
   rcases List.mem_append.1 hx with h|h
   ·obtain ⟨p, hp, rfl⟩ := List.mem_map.1 (List.mem_reverse.1 h)
    rw [hP p hp];omega
   ·rw [hQ x h];omega) (by omega) _ 0 rfl (by omega)
  rw [red_kept hR (Nat.le_refl _) hQ] at hfin
  refine ⟨(P.map (·.1)).reverse, ?_, by simp;omega, fun x hx => ?_, fun _ => ⟨n, P, Q, rfl, hok, hR, hP, hz, rfl⟩, by simp⟩
  ·unfold spec_ReduceRows.f
   simp only [Option.bind_some]
   refine Ev.bind hms ?_
   simp only [if_true]
   refine Ev.bind hevS ?_
   simpa using hfin
  ·obtain ⟨p, hp, rfl⟩ := List.mem_map.1 (List.mem_reverse.1 hx)
   rw [hP p hp];omega
def bothB (m : List (List Int)) (row : List Int) : Bool := isMat m (row.length : Int) && isMat [row] (row.length : Int)
theorem okm_append {m : List (List Int)} {row : List Int} {n : Nat} (h : Okm m n n) (hm : m.length ≤ 12) (hl : row.length = n) (hs : ∀ j, (at0 row j).natAbs ≤ bnd n j) : Okm (m ++ [row]) n n :=
 ⟨h.pos, h.cols, h.le6, by simp; omega, fun r hr => by
  rcases List.mem_append.1 hr with h' | h'
  ·exact h.len r h'
  ·rw [List.mem_singleton.1 h']; exact hl, fun r hr j => by
  rcases List.mem_append.1 hr with h' | h'
  ·exact h.small r h' j
  ·rw [List.mem_singleton.1 h']; exact hs j⟩
theorem sp_sub {m : List (List Int)} (row : List Int) {v : V} (h : Sp (RowSp m) v) : Sp (RowSp (m ++ [row])) v := h.mono fun v ⟨r, hr, e⟩ => ⟨r, List.mem_append_left _ hr, e⟩
theorem sp_sup {m : List (List Int)} {row : List Int} (hrow : Sp (RowSp m) (at0 row)) {v : V} (h : Sp (RowSp (m ++ [row])) v) : Sp (RowSp m) v := h.trans fun v ⟨r, hr, e⟩ => by
 rcases List.mem_append.1 hr with h' | h'
 ·exact Sp.of ⟨r, h', e⟩
 ·rw [← e, List.mem_singleton.1 h']; exact hrow
theorem sorted_sub : ∀ (l l' : List Nat), l.Pairwise (· > ·) → l'.Pairwise (· > ·) → (∀ k ∈ l, k ∈ l') → l'.length ≤ l.length → l = l'
 | [], l', _, _, _, h => (List.eq_nil_of_length_eq_zero (by simpa using h)).symm
 | a :: l, [], _, _, h, _ => absurd (h a (by simp)) (by simp)
 | a :: l, b :: l', h1, h2, h, hl => by
  have h1' := List.pairwise_cons.1 h1
  have h2' := List.pairwise_cons.1 h2
  have hnod : (a :: l).Nodup := h1.imp fun h => by omega
  by_cases e : a = b
  ·subst e
   rw [sorted_sub l l' h1'.2 h2'.2 (fun k hk => by
    rcases List.mem_cons.1 (h k (by simp [hk])) with e | h
    ·have := h1'.1 k hk; omega
    ·exact h) (by simpa using hl)]
  ·exfalso
   have ha : a ∈ l' := by
    rcases List.mem_cons.1 (h a (by simp)) with e' | h'
    ·exact absurd e' e
    ·exact h'
   have hab := h2'.1 a ha
   have hall : ∀ k ∈ a :: l, k ∈ l' := fun k hk => by
    rcases List.mem_cons.1 (h k hk) with e' | h'
    ·rcases List.mem_cons.1 hk with e2 | h2
     ·omega
     ·have := h1'.1 k h2; omega
    ·exact h'
   have := hnod.length_le_of_subset (l₂ := l') hall
   simp only [List.length_cons] at this hl
   omega
theorem sp_of_res {S : V → Prop} {P : List (List Int × Nat)} {L : Int} (hL : L ≠ 0) (hP : ∀ p ∈ P, Sp S (at0 p.1)) {v : V} (h : ∀ j, res L P v j = 0) : Sp S v := by
 refine Sp.div L hL ((sumOver_mem S P (fun p => L / at0 p.1 p.2 * v p.2) hP).congr fun j => ?_)
 have := h j
 unfold res at this
 omega
theorem span_iff {m : List (List Int)} {row : List Int} {n : Nat} {P P2 : List (List Int × Nat)} {Q Q2 : List (List Int)} (h : Red (RowSp m) n P Q) (h2 : Red (RowSp (m ++ [row])) n P2 Q2) (hz2 : ∀ q ∈ Q2, ∀ j, at0 q j = 0) :
  P.length = P2.length ↔ Sp (RowSp m) (at0 row) := by
 constructor
 ·intro hl
  have hc : P.map (·.2) = P2.map (·.2) := sorted_sub _ _ h.sorted h2.sorted (fun k hk => by
   obtain ⟨hkn, v, hv, hh⟩ := (h.mem_iff k).1 hk
   exact (h2.mem_iff k).2 ⟨hkn, v, sp_sub row hv, hh⟩) (by simp [hl])
  refine sp_of_res (P := P) (common_ne h.st.piv.2.1) h.st.inP fun j => ?_
  have hmem : Sp (RowSp (m ++ [row])) (res (common P) P (at0 row)) := res_mem _ (Sp.of ⟨row, by simp, rfl⟩) fun p hp => sp_sub row (h.st.inP p hp)
  refine zero_of_piv h2.st.piv (h2.span hz2 hmem) (fun p2 hp2 => ?_) j
  have : p2.2 ∈ P.map (·.2) := by rw [hc];exact List.mem_map_of_mem hp2
  obtain ⟨p, hp, e⟩ := List.mem_map.1 this
  rw [← e]
  exact res_piv h.st.piv (common P) dvd_common (at0 row) p hp
 ·intro hs
  have := h.cols h2 fun v => ⟨sp_sub row, sp_sup hs⟩
  have := congrArg List.length this
  simpa using this
theorem implSpan_j0 {m : List (List Int)} {row : List Int} {n : Nat} (hm : Okm m n n) (hm12 : m.length ≤ 12) (hl : row.length = n) (hs : ∀ j, (at0 row j).natAbs ≤ bnd n j) : ∃ b : Bool, Ev (fun k => impl_IsInSpan.j0 k m row (n : Int) false) b ∧ (b = true ↔ Sp (RowSp m) (at0 row)) := by
 obtain ⟨P, Q, hR, hP, hQ, hev⟩ := implRed hm
 obtain ⟨P2, Q2, hR2, hP2, hQ2, hev2⟩ := implRed (okm_append hm hm12 hl hs)
 refine ⟨((P.map (·.1)).reverse.length : Int) == ((P2.map (·.1)).reverse.length : Int), ?_, ?_⟩
 ·refine Ev.step (f := fun k => (impl_reduceAny.f k m (n : Int)).bind fun t => (impl_reduceAny.f k (m ++ [row]) (n : Int)).bind fun u => some ((t.length : Int) == (u.length : Int))) (fun k => ?_) (Ev.bind hev (Ev.bind hev2 (Ev.now _)))
  have hc : slices_Clone_int_int_78.f m = some m := by
   unfold slices_Clone_int_int_78.f
   simp only [Option.bind_some, List.length_nil, List.nil_append, Nat.zero_add]
   rw [if_pos (by omega)]
  simp only [impl_IsInSpan.j0]
  rw [if_neg (by decide), hc]
  simp only [Option.bind_some, if_pos (show m.length < 5864062014805 by omega)]
 ·rw [beq_iff_eq, ← span_iff hR hR2 (red_rest hR2 (Nat.le_refl _) hQ2)]
  simp only [List.length_reverse, List.length_map]
  omega
theorem implSpan_ev (m : List (List Int)) (row : List Int) (hm : m.length ≤ 16777216) (hr : ∀ x ∈ m, x.length ≤ 16777216) (hl : row.length ≤ 16777216) : ∃ b : Bool, Ev (fun k => impl_IsInSpan.f k m row) b ∧
  (bothB m row = true → (b = true ↔ Sp (RowSp m) (at0 row))) ∧ (bothB m row = false → b = false) := by
 have h1 := implMat_ev m hm hr (row.length : Int)
 have h2 := implMat_ev [row] (by simp) (fun x hx => by rw [List.mem_singleton.1 hx];exact hl) (row.length : Int)
 have hj : Ev (fun k => impl_IsInSpan.j0 k m row (row.length : Int) true) false := Ev.step (f := fun _ => some false) (fun k => by simp only [impl_IsInSpan.j0];rw [if_pos trivial]) (Ev.now _)
 cases hb : isMat m (row.length : Int) with
|false =>
  rw [hb] at h1
  refine ⟨false, ?_, by simp [bothB, hb], by simp⟩
  unfold impl_IsInSpan.f
  refine Ev.bind h1 ?_
  simp only [Bool.false_eq_true, if_false]
  exact hj
|true =>
  rw [hb] at h1
  cases hb2 : isMat [row] (row.length : Int) with
 |false =>
   rw [hb2] at h2
   refine ⟨false, ?_, by simp [bothB, hb2], by simp⟩
   unfold impl_IsInSpan.f
   refine Ev.bind h1 ?_
   simp only [if_true]
   refine Ev.bind h2 ?_
   simp only [Bool.not_false]
   exact hj
 |true =>
   rw [hb2] at h2
   obtain ⟨n, hn, hok, hm12⟩ := okm_of_isMat hb
   obtain ⟨n2, hn2, hok2, _⟩ := okm_of_isMat hb2
   have e1 : row.length = n := by omega
   have e2 : n2 = n := by omega
   subst e2
   obtain ⟨b, hbe, hbi⟩ := implSpan_j0 hok hm12 e1 (hok2.small row (by simp))
   refine ⟨b, ?_, fun _ => hbi, by simp [bothB, hb, hb2]⟩
   unfold impl_IsInSpan.f
   refine Ev.bind h1 ?_
   simp only [if_true]
   refine Ev.bind h2 ?_
   simp only [Bool.not_true]
   rw [e1]
   exact hbe
theorem sum_small (g : List Int × Nat → Int) (B : Nat) : ∀ l : List (List Int × Nat), (∀ p ∈ l, (g p).natAbs ≤ B) → (sumOver g l).natAbs ≤ l.length * B
 | [], _ => by simp [sumOver]
 | p :: l, h => by
  have h1 := h p (by simp)
  have h2 := sum_small g B l fun q hq => h q (by simp [hq])
  simp only [sumOver, List.length_cons, Nat.add_mul, Nat.one_mul]
  omega
structure SpanInv (D : Int) (row : List Int) (B : List (List Int × Nat)) (n : Nat) (x : List Int) : Prop where
 len : x.length = n
 small : ∀ j, (at0 x j).natAbs ≤ 645120
 prop : ∃ a b : Int, a ≠ 0 ∧ b ≠ 0 ∧ ∀ j, a * at0 x j = b * res D B (at0 row) j
theorem specSpan_l0 {m : List (List Int)} {row : List Int} {n : Nat} {P : List (List Int × Nat)} {Q : List (List Int)} (h : Red (RowSp m) n P Q) (hsm_rows : ∀ r ∈ m, ∀ j, (at0 r j).natAbs ≤ bnd n j) (hP : ∀ p ∈ P, p.1.length = n) (hn : n ≤ 6) (hrl : row.length = n) (hrs : ∀ j, (at0 row j).natAbs ≤ bnd n j) {D : Int} (hD : 0 < D) (hD2 : D ≤ 46080)
  (he : ∀ p ∈ P, ∃ e : Int, 0 < e ∧ D = at0 p.1 p.2 * e ∧ (∀ j, j < n → (e * at0 p.1 j).natAbs ≤ 46080) ∧ ∀ j, (e * at0 p.1 j).natAbs ≤ 23040000) (d : Nat) : ∀ (A B : List (List Int × Nat)) (x : List Int), A.length = d → P = A ++ B → SpanInv D row B n x →
  ∃ b : Bool, Ev (fun k => spec_IsInSpan.l0 k x (P.map (·.1)).reverse (B.length : Int)) b ∧ (b = true ↔ ∀ j, res D P (at0 row) j = 0) := by
 have hPl := h.len
 induction d with
|zero =>
  intro A B x hA hAB hx
  have hA0 : A = [] := List.eq_nil_of_length_eq_zero hA
  subst hA0
  obtain rfl : P = B := hAB
  have hlead := leadS_ev x (by rw [hx.len];omega)
  refine ⟨(ld x : Int) == (x.length : Int), ?_, ?_⟩
  ·refine Ev.step (f := fun k => (spec_l5Lead.f k x).bind fun t => some (t == (x.length : Int))) (fun k => ?_) (Ev.bind hlead (Ev.now _))
   simp only [spec_IsInSpan.l0]
   rw [if_neg (by simp)]
  ·rw [beq_iff_eq]
   obtain ⟨a, b, ha, hb, hp⟩ := hx.prop
   constructor
   ·intro hl j
    have h0 := zero_of_ld x (by omega) j
    have := hp j
    rw [h0, Int.mul_zero] at this
    exact (Int.mul_eq_zero.1 this.symm).resolve_left hb
   ·intro hz
    have : ∀ j, at0 x j = 0 := fun j => by
     have h1 := hp j
     rw [hz j, Int.mul_zero] at h1
     exact (Int.mul_eq_zero.1 h1).resolve_left ha
    rw [ld_zero x this]
|succ d ih =>
  intro A B x hA hAB hx
  obtain ⟨A', p, rfl⟩ : ∃ A' p, A = A' ++ [p] := by
   rcases List.eq_nil_or_concat A with h|⟨A', p, h⟩
   ·rw [h] at hA;simp at hA
   ·exact ⟨A', p, by simpa using h⟩
  have hpm : p ∈ P := by rw [hAB];simp
  have hBm : ∀ q ∈ B, q ∈ P := fun q hq => by rw [hAB];simp [hq]
  obtain ⟨e, he0, heD, hes, _⟩ := he p hpm
  have hpos := h.pos p hpm
  have hpn : p.2 < n := h.ncol p hpm
  have hld : ld p.1 = p.2 := ld_eq p.1 p.2 (h.lead p hpm) (by omega)
  have hAB2 : P = A' ++ (p :: B) := by rw [hAB, List.append_assoc];rfl
  have hdiv : D / at0 p.1 p.2 = e := by rw [heD];exact Int.mul_ediv_cancel_left _ (by omega)
  have hBk : ∀ q ∈ B, at0 q.1 p.2 = 0 := fun q hq => by
   refine h.st.piv.2.2 q (hBm q hq) p hpm fun e2 => ?_
   have hnd := h.st.piv.1
   rw [hAB2, List.map_append, List.map_cons] at hnd
   have h3 := (List.nodup_append.1 hnd).2.1
   exact (List.nodup_cons.1 h3).1 (by rw [← e2];exact List.mem_map_of_mem hq)
  have hresk : res D B (at0 row) p.2 = D * at0 row p.2 := by
   unfold res
   rw [sumOver_zero _ _ fun q hq => by rw [hBk q hq];simp]
   omega
  have hresc : ∀ j, res D (p :: B) (at0 row) j = res D B (at0 row) j - e * at0 row p.2 * at0 p.1 j := fun j => by
   unfold res
   simp only [sumOver]
   rw [hdiv]
   omega
  have hress : ∀ j, (res D (p :: B) (at0 row) j).natAbs ≤ 645120 := fun j => by
   rcases Nat.lt_or_ge j n with hj|hj
   ·have hlen : (p :: B).length ≤ 6 := by
     have := congrArg List.length hAB2
     simp only [List.length_append, List.length_cons] at this ⊢
     omega
    have hs := sum_small (fun q => D / at0 q.1 q.2 * at0 row q.2 * at0 q.1 j) 92160 (p :: B) fun q hq => by
     have hqm : q ∈ P := by
      rcases List.mem_cons.1 hq with h'|h'
      ·rw [h'];exact hpm
      ·exact hBm q h'
     obtain ⟨eq, heq0, heqD, heqs, _⟩ := he q hqm
     have hqpos := h.pos q hqm
     have hqd : D / at0 q.1 q.2 = eq := by rw [heqD];exact Int.mul_ediv_cancel_left _ (by omega)
     show (D / at0 q.1 q.2 * at0 row q.2 * at0 q.1 j).natAbs ≤ 92160
     rw [hqd, Int.mul_right_comm, Int.natAbs_mul]
     have h1 := heqs j hj
     have h2 := hrs q.2
     have h3 : bnd n q.2 = 2 := by unfold bnd;rw [if_pos (h.ncol q hqm)]
     rw [h3] at h2
     exact Nat.mul_le_mul h1 h2
    have h4 : (D * at0 row j).natAbs ≤ 92160 := by
     rw [Int.natAbs_mul]
     have h2 := hrs j
     have h3 : bnd n j = 2 := by unfold bnd;rw [if_pos hj]
     rw [h3] at h2
     have : D.natAbs ≤ 46080 := by omega
     exact Nat.mul_le_mul this h2
    have h5 : (p :: B).length * 92160 ≤ 6 * 92160 := Nat.mul_le_mul_right _ hlen
    unfold res
    omega
   ·have h0 : res D (p :: B) (at0 row) j = 0 := by
     unfold res
     rw [at0_out (by rw [hrl];exact hj), sumOver_zero _ _ fun q hq => by
      have hqm : q ∈ P := by
       rcases List.mem_cons.1 hq with h'|h'
       ·rw [h'];exact hpm
       ·exact hBm q h'
      rw [show at0 q.1 j = 0 from at0_out (by rw [hP q hqm];exact hj)];simp]
     simp
    rw [h0]
    exact Nat.zero_le _
  obtain ⟨a, b, ha, hb, hprop⟩ := hx.prop
  have hi : B.length < (P.map (·.1)).reverse.length := by rw [hAB2];simp
  have hRi : (P.map (·.1)).reverse[B.length] = p.1 := by
   have : (P.map (·.1)).reverse = (B.map (·.1)).reverse ++ (p.1 :: (A'.map (·.1)).reverse) := by rw [hAB2];simp
   simp only [this]
   rw [List.getElem_append_right (by simp)]
   simp
  have hlp := leadS_ev p.1 (by rw [hP p hpm];omega)
  rw [hld] at hlp
  have hxp : x.length = p.1.length := by rw [hx.len, hP p hpm]
  have hstep : ∀ k, spec_IsInSpan.l0 (k + 1) x (P.map (·.1)).reverse (B.length : Int) = (spec_l5Lead.f k p.1).bind fun t => if 0 ≤ t then (if t < (x.length : Int) then (if rd x t = 0 then spec_IsInSpan.l0 k x (P.map (·.1)).reverse (((p :: B).length : Nat) : Int) else (spec_l5Clear.f k x p.1 t).bind fun u => spec_IsInSpan.l0 k u (P.map (·.1)).reverse (((p :: B).length : Nat) : Int)) else none) else none := fun k => by
   simp only [spec_IsInSpan.l0]
   rw [if_pos (by omega), if_pos (by omega), rdL_nat _ _ hi, hRi, wrap_id (by simp at hi;omega) (by simp at hi;omega)]
   rfl
  have hbd := hx.prop
  by_cases hxk : at0 x p.2 = 0
  ·have hrow0 : at0 row p.2 = 0 := by
    have h1 := hprop p.2
    rw [hxk, Int.mul_zero, hresk] at h1
    rcases Int.mul_eq_zero.1 h1.symm with h2|h2
    ·exact absurd h2 hb
    ·exact (Int.mul_eq_zero.1 h2).resolve_left (by omega)
   obtain ⟨c, hce, hci⟩ := ih A' (p :: B) x (by simpa using hA) hAB2 ⟨hx.len, hx.small, a, b, ha, hb, fun j => by rw [hresc, hrow0, Int.mul_zero, Int.zero_mul, Int.sub_zero];exact hprop j⟩
   refine ⟨c, Ev.step hstep (Ev.bind hlp ?_), hci⟩
   simp only [if_pos (show (0 : Int) ≤ (p.2 : Int) by omega), if_pos (show (p.2 : Int) < (x.length : Int) by rw [hx.len];omega), at0_rd, if_pos hxk]
   exact hce
  ·have hcl := clearS_ev x p.1 p.2 hxp (by rw [hx.len];omega) (by rw [hx.len];omega) (fun j => by have := hx.small j;omega) (fun j => by
    have := h.small_piv' (m := n) (fun o ho j => by
     obtain ⟨r, hr, rfl⟩ := ho
     exact hsm_rows r hr j) (Nat.le_refl _) hn p hpm j
    omega)
   have hy : ∀ j, a * at0 (comb x p.1 p.2) j = at0 p.1 p.2 * b * res D (p :: B) (at0 row) j := fun j => by
    rw [comb_at x p.1 p.2 hxp, hresc]
    have h1 := hprop j
    have h2 := hprop p.2
    rw [hresk] at h2
    have h3 : a * (at0 x j * at0 p.1 p.2 - at0 p.1 j * at0 x p.2) = at0 p.1 p.2 * (a * at0 x j) - at0 p.1 j * (a * at0 x p.2) := by
     rw [Int.mul_sub, ← Int.mul_assoc, Int.mul_comm (a * at0 x j), Int.mul_left_comm a (at0 p.1 j)]
    rw [h3, h1, h2, heD, Int.mul_sub, Int.mul_assoc (at0 p.1 p.2) b]
    congr 1
    simp only [Int.mul_assoc, Int.mul_comm, Int.mul_left_comm]
   obtain ⟨g, hg, hgt⟩ := tid_fac (comb x p.1 p.2)
   have hprop2 : ∀ j, a * g * at0 (tid (comb x p.1 p.2)) j = at0 p.1 p.2 * b * res D (p :: B) (at0 row) j := fun j => by
    rw [Int.mul_assoc, hgt j];exact hy j
   have ha2 : a * g ≠ 0 := Int.mul_ne_zero ha hg
   have hb2 : at0 p.1 p.2 * b ≠ 0 := Int.mul_ne_zero (by omega) hb
   obtain ⟨c, hce, hci⟩ := ih A' (p :: B) (tid (comb x p.1 p.2)) (by simpa using hA) hAB2 ⟨by rw [tid_len, comb_len x p.1 p.2 hxp, hx.len], fun j => by
    rcases tid_tq (comb x p.1 p.2) with h0|⟨hpr, _⟩
    ·rw [h0 j];simp
    ·have h1 := hpr.bound _ _ ha2 hb2 hprop2 j
     have h2 := hress j
     omega, a * g, at0 p.1 p.2 * b, ha2, hb2, hprop2⟩
   refine ⟨c, Ev.step hstep (Ev.bind hlp ?_), hci⟩
   simp only [if_pos (show (0 : Int) ≤ (p.2 : Int) by omega), if_pos (show (p.2 : Int) < (x.length : Int) by rw [hx.len];omega), at0_rd, if_neg hxk]
   exact Ev.bind hcl hce
theorem specSpan_ev (m : List (List Int)) (row : List Int) (hm : m.length ≤ 16777216) (hr : ∀ x ∈ m, x.length ≤ 16777216) (hl : row.length ≤ 16777216) : ∃ b : Bool, Ev (fun k => spec_IsInSpan.f k m row) b ∧
  (bothB m row = true → (b = true ↔ Sp (RowSp m) (at0 row))) ∧ (bothB m row = false → b = false) := by
 have h1 := specMat_ev m hm hr (row.length : Int)
 have h2 := specMat_ev [row] (by simp) (fun x hx => by rw [List.mem_singleton.1 hx];exact hl) (row.length : Int)
 have hboth : Ev (fun k => spec_l5Both.f k m row) (bothB m row) := by
  unfold spec_l5Both.f bothB
  refine Ev.bind h1 ?_
  cases isMat m (row.length : Int) with
 |false =>
   simp only [Bool.false_eq_true, if_false, Bool.false_and]
   exact Ev.now _
 |true =>
   simp only [if_true, Bool.true_and]
   exact Ev.bind h2 (Ev.now _)
 cases hb : bothB m row with
|false =>
  rw [hb] at hboth
  refine ⟨false, ?_, (fun h => by cases h), fun _ => rfl⟩
  unfold spec_IsInSpan.f
  refine Ev.bind hboth ?_
  simp only [Bool.false_eq_true, if_false]
  exact Ev.now _
|true =>
  rw [hb] at hboth
  have hb1 : isMat m (row.length : Int) = true ∧ isMat [row] (row.length : Int) = true := by simpa [bothB] using hb
  obtain ⟨R, hS, hRl, hRr, hT, _⟩ := specRR_ev m (row.length : Int) hm hr
  obtain ⟨n, P, Q, hn, hok, hR, hP, hz, hRe⟩ := hT hb1.1
  obtain ⟨n2, hn2, hok2, _⟩ := okm_of_isMat hb1.2
  have e1 : row.length = n := by omega
  have e2 : n2 = n := by omega
  subst e2
  obtain ⟨D, hD, hD2, he⟩ := hR.small_piv (m := n2) hok.start.1 (Nat.le_refl _) hok.le6
  have hrs := hok2.small row (by simp)
  obtain ⟨b, hbe, hbi⟩ := specSpan_l0 hR hok.small hP hok.le6 e1 hrs hD hD2 he P.length P [] row rfl (by simp) ⟨e1, fun j => by
   have := hrs j
   have := bnd_le n2 j
   omega, D, 1, by omega, by decide, fun j => by simp [res, sumOver]⟩
  refine ⟨b, ?_, fun _ => hbi.trans ⟨fun h => sp_of_res (by omega) hR.st.inP h, fun h j => res_span hR.st.piv D (fun p hp => by
   obtain ⟨e, _, hDe, _⟩ := he p hp
   exact ⟨e, hDe⟩) (hR.span hz h) j⟩, (fun h => by cases h)⟩
  unfold spec_IsInSpan.f
  refine Ev.bind hboth ?_
  simp only [if_true, Option.bind_some, List.length_nil, List.nil_append, Nat.zero_add]
  simp only [if_pos (show row.length < 17592186044416 by omega)]
  refine Ev.bind hS ?_
  rw [hRe]
  exact hbe
theorem span_both (m : List (List Int)) (row : List Int) (hm : m.length ≤ 16777216) (hr : ∀ x ∈ m, x.length ≤ 16777216) (hl : row.length ≤ 16777216) : ∃ b : Bool, Ev (fun k => impl_IsInSpan.f k m row) b ∧ Ev (fun k => spec_IsInSpan.f k m row) b ∧
  (bothB m row = true → (b = true ↔ Sp (RowSp m) (at0 row))) ∧ (bothB m row = false → b = false) := by
 obtain ⟨b, h1, h2, h3⟩ := implSpan_ev m row hm hr hl
 obtain ⟨c, k1, k2, k3⟩ := specSpan_ev m row hm hr hl
 have e : b = c := by
  cases hb : bothB m row with
  | false => rw [h3 hb, k3 hb]
  | true => rw [Bool.eq_iff_iff]; exact (h2 hb).trans (k2 hb).symm
 subst e
 exact ⟨b, h1, k1, h2, h3⟩
def redOf (n d : Int) : Int × Int × Bool :=
 if isR (Int.tdiv n (if d < 0 then -((Int.gcd n d : Nat) : Int) else ((Int.gcd n d : Nat) : Int))) (Int.tdiv d (if d < 0 then -((Int.gcd n d : Nat) : Int) else ((Int.gcd n d : Nat) : Int))) = true then
  (Int.tdiv n (if d < 0 then -((Int.gcd n d : Nat) : Int) else ((Int.gcd n d : Nat) : Int)), Int.tdiv d (if d < 0 then -((Int.gcd n d : Nat) : Int) else ((Int.gcd n d : Nat) : Int)), true)
 else (0, 0, false)
theorem tdiv_le (n g : Int) : (Int.tdiv n g).natAbs ≤ n.natAbs := by
 rw [Int.natAbs_tdiv]
 exact Nat.div_le_self _ _
theorem gcd_small (n d : Int) (hd : d ≠ 0) (hd0 : -9223372036854775808 < d) (hd1 : d < 9223372036854775808) : 0 < ((Int.gcd n d : Nat) : Int) ∧ ((Int.gcd n d : Nat) : Int) < 9223372036854775808 := by
 have h1 : 0 < Int.gcd n d := by
  rcases Nat.eq_zero_or_pos (Int.gcd n d) with h | h
  ·exact absurd (Int.gcd_eq_zero_iff.1 h).2 hd
  ·exact h
 have h2 : Int.gcd n d ≤ d.natAbs := Nat.le_of_dvd (by omega) (by
  have := Int.gcd_dvd_right n d
  exact Int.natAbs_dvd_natAbs.2 this)
 omega
theorem redI_ev (n d : Int) (hd : d ≠ 0) (hn0 : -9223372036854775808 < n) (hn1 : n < 9223372036854775808) (hd0 : -9223372036854775808 < d) (hd1 : d < 9223372036854775808) : Ev (fun k => impl_reduced.f k n d) (redOf n d) := by
 have hg := gcd_small n d hd hd0 hd1
 unfold impl_reduced.f redOf
 refine Ev.bind (gcdI_ev n d hn0 hn1 hd0 hd1) ?_
 by_cases c : d < 0
 ·simp only [if_pos c]
  have b1 := tdiv_le n (-((Int.gcd n d : Nat) : Int))
  have b2 := tdiv_le d (-((Int.gcd n d : Nat) : Int))
  have e1 : wrap64 (-((Int.gcd n d : Nat) : Int)) = -((Int.gcd n d : Nat) : Int) := wrap_id (by omega) (by omega)
  have e2 : wrap64 (Int.tdiv n (-((Int.gcd n d : Nat) : Int))) = Int.tdiv n (-((Int.gcd n d : Nat) : Int)) := wrap_id (by omega) (by omega)
  have e3 : wrap64 (Int.tdiv d (-((Int.gcd n d : Nat) : Int))) = Int.tdiv d (-((Int.gcd n d : Nat) : Int)) := wrap_id (by omega) (by omega)
  simp only [e1, e2, e3, if_neg (show ¬ (-((Int.gcd n d : Nat) : Int) = 0) by omega)]
  refine Ev.bind (isRI_ev _ _) ?_
  split <;> exact Ev.now _
 ·simp only [if_neg c]
  have b1 := tdiv_le n ((Int.gcd n d : Nat) : Int)
  have b2 := tdiv_le d ((Int.gcd n d : Nat) : Int)
  have e2 : wrap64 (Int.tdiv n ((Int.gcd n d : Nat) : Int)) = Int.tdiv n ((Int.gcd n d : Nat) : Int) := wrap_id (by omega) (by omega)
  have e3 : wrap64 (Int.tdiv d ((Int.gcd n d : Nat) : Int)) = Int.tdiv d ((Int.gcd n d : Nat) : Int) := wrap_id (by omega) (by omega)
  simp only [e2, e3, if_neg (show ¬ (((Int.gcd n d : Nat) : Int) = 0) by omega)]
  refine Ev.bind (isRI_ev _ _) ?_
  split <;> exact Ev.now _
theorem makeS_j0 (n d : Int) (hd : 0 < d) (hn0 : -9223372036854775808 < n) (hn1 : n < 9223372036854775808) (hd1 : d < 9223372036854775808) : Ev (fun k => spec_l4Make.j0 k n d) (redOf n d) := by
 have hg := gcd_small n d (by omega) (by omega) hd1
 refine Ev.step (fun k => spec_l4Make.j0.eq_2 _ _ _) ?_
 unfold redOf
 refine Ev.bind (gcdS_ev n d hn0 hn1 (by omega) hd1) ?_
 have b1 := tdiv_le n ((Int.gcd n d : Nat) : Int)
 have b2 := tdiv_le d ((Int.gcd n d : Nat) : Int)
 have e2 : wrap64 (Int.tdiv n ((Int.gcd n d : Nat) : Int)) = Int.tdiv n ((Int.gcd n d : Nat) : Int) := wrap_id (by omega) (by omega)
 have e3 : wrap64 (Int.tdiv d ((Int.gcd n d : Nat) : Int)) = Int.tdiv d ((Int.gcd n d : Nat) : Int) := wrap_id (by omega) (by omega)
 simp only [e2, e3, if_neg (show ¬ (d < 0) by omega), if_neg (show ¬ (((Int.gcd n d : Nat) : Int) = 0) by omega)]
 refine Ev.bind (isRS_ev _ _) ?_
 split <;> exact Ev.now _
theorem redOf_neg (n d : Int) (hd : d < 0) : redOf (-n) (-d) = redOf n d := by
 unfold redOf
 simp only [Int.gcd_neg, Int.neg_gcd, if_pos hd, if_neg (show ¬ (-d < 0) by omega), Int.neg_tdiv, Int.tdiv_neg]
theorem makeS_ev (n d : Int) (hd : d ≠ 0) (hn0 : -9223372036854775808 < n) (hn1 : n < 9223372036854775808) (hd0 : -9223372036854775808 < d) (hd1 : d < 9223372036854775808) : Ev (fun k => spec_l4Make.f k n d) (redOf n d) := by
 unfold spec_l4Make.f
 simp only [if_neg hd]
 by_cases c : d < 0
 ·simp only [if_pos c]
  rw [wrap_id (by omega) (by omega), wrap_id (by omega) (by omega), ← redOf_neg n d c]
  exact makeS_j0 (-n) (-d) (by omega) (by omega) (by omega) (by omega)
 ·simp only [if_neg c]
  exact makeS_j0 n d (by omega) hn0 hn1 hd1
theorem redOf_of (n d a b : Int) (hd : d ≠ 0) (h : isR a b = true) (e : n * b = a * d) : redOf n d = (a, b, true) := by
 have hv := (isR_iff a b).1 h
 have hb : b ∣ a * d := ⟨n, by rw [← e, Int.mul_comm]⟩
 have hg : Int.gcd b a = 1 := by
  have := hv.2.2
  rw [Int.gcd_comm]
  omega
 have hdv : b ∣ d := by
  refine Int.natAbs_dvd_natAbs.1 (Nat.Coprime.dvd_of_dvd_mul_left (m := a.natAbs) hg ?_)
  rw [← Int.natAbs_mul]
  exact Int.natAbs_dvd_natAbs.2 hb
 obtain ⟨t, rfl⟩ := hdv
 have ht : t ≠ 0 := fun h => hd (by rw [h, Int.mul_zero])
 have hn : n = a * t := by
  have e2 : b * n = b * (a * t) := by
   rw [Int.mul_comm b n, e, ← Int.mul_assoc, ← Int.mul_assoc, Int.mul_comm a b]
  exact Int.eq_of_mul_eq_mul_left (by omega) e2
 subst hn
 unfold redOf
 have g1 : ((Int.gcd (a * t) (b * t) : Nat) : Int) = ((t.natAbs : Nat) : Int) := by
  rw [Int.gcd_mul_right]
  have := hv.2.2
  have : Int.gcd a b = 1 := by omega
  rw [this, Nat.one_mul]
 have g2 : (if b * t < 0 then -((Int.gcd (a * t) (b * t) : Nat) : Int) else ((Int.gcd (a * t) (b * t) : Nat) : Int)) = t := by
  rw [g1]
  by_cases c : t < 0
  ·rw [if_pos (Int.mul_neg_of_pos_of_neg (by omega) c)]
   omega
  ·have : 0 ≤ b * t := Int.mul_nonneg (by omega) (by omega)
   rw [if_neg (by omega)]
   omega
 rw [g2, Int.mul_tdiv_cancel _ ht, Int.mul_tdiv_cancel _ ht, if_pos h]
theorem redOf_small (n d : Int) (hd : 0 < d) (hd1 : d ≤ 1000000000) (hn : n.natAbs ≤ 1000000000) : ∃ a b, redOf n d = (a, b, true) ∧ isR a b = true ∧ n * b = a * d := by
 have hG : 0 < Int.gcd n d := by
  rcases Nat.eq_zero_or_pos (Int.gcd n d) with h | h
  ·have := (Int.gcd_eq_zero_iff.1 h).2
   omega
  ·exact h
 obtain ⟨u, hu⟩ := Int.gcd_dvd_left n d
 obtain ⟨v, hv⟩ := Int.gcd_dvd_right n d
 generalize hg : Int.gcd n d = G at hG hu hv
 have h1 : Int.gcd u v = 1 := by
  have h2 : Int.gcd ((G : Int) * u) ((G : Int) * v) = G * Int.gcd u v := by
   rw [Int.gcd_mul_left]
   simp
  rw [← hu, ← hv, hg] at h2
  have h3 : G * Int.gcd u v = G * 1 := by omega
  exact Nat.eq_of_mul_eq_mul_left hG h3
 have hv0 : 0 < v := by
  rcases Int.lt_or_le 0 v with h | h
  ·exact h
  ·have : (G : Int) * v ≤ 0 := Int.mul_nonpos_of_nonneg_of_nonpos (by omega) h
   omega
 have hv1 : v ≤ d := by
  have : 1 * v ≤ (G : Int) * v := Int.mul_le_mul_of_nonneg_right (by omega) (by omega)
  omega
 have hu1 : u.natAbs ≤ n.natAbs := by
  have h2 : n.natAbs = G * u.natAbs := by rw [hu, Int.natAbs_mul]; simp
  rw [h2]
  exact Nat.le_mul_of_pos_left _ hG
 have hR : isR u v = true := (isR_iff u v).2 ⟨by omega, by omega, by omega⟩
 have he : n * v = u * d := by
  rw [hu, hv, Int.mul_comm (G : Int) u, Int.mul_assoc]
 exact ⟨u, v, redOf_of n d u v (by omega) hR he, hR, he⟩
structure PivOk (n : Nat) (p : List Int × Nat) : Prop where
 len : p.1.length = n + 1
 col : p.2 < n
 ld : ld p.1 = p.2
 pos : 0 < at0 p.1 p.2
 le : at0 p.1 p.2 ≤ 46080
 val : (at0 p.1 n).natAbs ≤ 23040000
theorem Solved.pivok {m : List (List Int)} {v : List Int} {n : Nat} {P : List (List Int × Nat)} {Q : List (List Int)} (h : Solved m v n P Q) : ∀ p ∈ P, PivOk n p := by
 intro p hp
 obtain ⟨D, h0, h1, hh⟩ := h.red.small_piv (m := n) (fun o ho j => by
  obtain ⟨r, hr, rfl⟩ := ho
  exact h.oka.small r hr j) (Nat.le_refl _) h.okm.le6
 obtain ⟨e, he, hD, hj, hj2⟩ := hh p hp
 have hpos := h.red.pos p hp
 refine ⟨h.lenP p hp, h.red.ncol p hp, ld_eq p.1 p.2 (h.red.lead p hp) (by omega), hpos, ?_, ?_⟩
 ·have : at0 p.1 p.2 * 1 ≤ at0 p.1 p.2 * e := Int.mul_le_mul_of_nonneg_left (by omega) (by omega)
  omega
 ·have h2 := hj2 n
  rw [Int.natAbs_mul] at h2
  have h3 : 1 * (at0 p.1 n).natAbs ≤ e.natAbs * (at0 p.1 n).natAbs := Nat.mul_le_mul_right _ (by omega)
  omega
def fr (n : Nat) (p : List Int × Nat) : S26 := ⟨(redOf (at0 p.1 n) (at0 p.1 p.2)).1, (redOf (at0 p.1 n) (at0 p.1 p.2)).2.1⟩
def solStep (n : Nat) (out : List S26) (p : List Int × Nat) : List S26 := out.set p.2 (fr n p)
def solOf (n : Nat) (L : List (List Int × Nat)) : List S26 := L.foldl (solStep n) (List.replicate n ⟨0, 1⟩)
theorem solStep_len (n : Nat) : ∀ (L : List (List Int × Nat)) (out : List S26), (L.foldl (solStep n) out).length = out.length
 | [], _ => rfl
 | p :: L, out => by
  rw [List.foldl_cons, solStep_len n L]
  simp [solStep]
theorem fr_eq {n : Nat} {p : List Int × Nat} (h : PivOk n p) : ∃ a b, redOf (at0 p.1 n) (at0 p.1 p.2) = (a, b, true) ∧ fr n p = ⟨a, b⟩ ∧ isR a b = true ∧ at0 p.1 n * b = a * at0 p.1 p.2 := by
 have h1 := h.pos;have h2 := h.le;have h3 := h.val
 obtain ⟨a, b, e, hR, he⟩ := redOf_small (at0 p.1 n) (at0 p.1 p.2) h1 (by omega) (by omega)
 refine ⟨a, b, e, ?_, hR, he⟩
 unfold fr
 rw [e]
theorem rd_at0 (r : List Int) (j : Nat) (h : j < r.length) : rd r (j : Int) = at0 r j := by
 rw [rd_nat r j h, at0_lt h]
theorem solI_l1 (n : Nat) (L : List (List Int × Nat)) (hL : ∀ p ∈ L, PivOk n p) (hn : n ≤ 1000) (hl : L.length ≤ 1000) (d : Nat) : ∀ (i : Nat) (out : List S26), L.length - i = d → i ≤ L.length → out.length = n → Ev (fun k => impl_SolutionOf.l1 k (n : Int) out (L.map (·.1)) (L.length : Int) (i : Int)) ((L.drop i).foldl (solStep n) out, true) := by
 induction d with
|zero =>
  intro i out hd hi ho
  rw [List.drop_eq_nil_of_le (by omega)]
  refine Ev.step (f := fun _ => some (out, true)) (fun k => ?_) (Ev.now _)
  simp only [impl_SolutionOf.l1]
  rw [if_neg (by omega)]
|succ d ih =>
  intro i out hd hi ho
  have h : i < L.length := by omega
  have hp := hL _ (List.getElem_mem h)
  obtain ⟨a, b, he, hf, hR, _⟩ := fr_eq hp
  have h1 := hp.len;have h2 := hp.col;have h3 := hp.ld;have h4 := hp.pos;have h5 := hp.le;have h6 := hp.val
  have hlead := leadI_ev L[i].1 (by omega)
  rw [if_pos (by omega), h3] at hlead
  have hred := redI_ev (at0 L[i].1 n) (at0 L[i].1 L[i].2) (by omega) (by omega) (by omega) (by omega) (by omega)
  rw [he] at hred
  have hrow : rd_L1 (L.map (·.1)) (i : Int) = L[i].1 := by
   rw [rdL_nat _ i (by simpa using h)]
   simp
  rw [List.drop_eq_getElem_cons h, List.foldl_cons]
  refine Ev.step (f := fun k => (impl_lead.f k L[i].1).bind fun t => if 0 ≤ (n : Int) then (if (n : Int) < (L[i].1.length : Int) then (if 0 ≤ t then (if t < (L[i].1.length : Int) then ((impl_reduced.f k (rd L[i].1 (n : Int)) (rd L[i].1 t)).bind fun bt => if t < (out.length : Int) then (if bt.2.2 = true then impl_SolutionOf.l1 k (n : Int) (out.set t.toNat ⟨bt.1, bt.2.1⟩) (L.map (·.1)) (L.length : Int) ((i + 1 : Nat) : Int) else some ([], false)) else none) else none) else none) else none) else none) (fun k => ?_) (Ev.bind hlead ?_)
  ·simp only [impl_SolutionOf.l1]
   rw [if_pos (by omega), if_pos (by omega), if_pos (by simpa using h), hrow, wrap_id (by omega) (by omega)]
   rfl
  ·simp only [if_pos (show (0 : Int) ≤ (n : Int) by omega), if_pos (show (n : Int) < (L[i].1.length : Int) by omega), if_pos (show (0 : Int) ≤ (L[i].2 : Int) by omega), if_pos (show (L[i].2 : Int) < (L[i].1.length : Int) by omega), rd_at0 L[i].1 n (by omega), rd_at0 L[i].1 L[i].2 (by omega)]
   refine Ev.bind hred ?_
   simp only [if_pos (show (L[i].2 : Int) < (out.length : Int) by omega), if_true, Int.toNat_natCast]
   have hs : solStep n out L[i] = out.set L[i].2 ⟨a, b⟩ := by unfold solStep;rw [hf]
   rw [hs]
   exact ih (i + 1) _ (by omega) (by omega) (by simpa using ho)
theorem solS_l1 (n : Nat) (L : List (List Int × Nat)) (Q : List (List Int)) (hL : ∀ p ∈ L, PivOk n p) (hQ : ∀ q ∈ Q, q.length = n + 1 ∧ ∀ j, at0 q j = 0) (hn : n ≤ 1000) (hl : L.length + Q.length ≤ 1000) (d : Nat) : ∀ (i : Nat) (out : List S26), L.length + Q.length - i = d → i ≤ L.length + Q.length → out.length = n → Ev (fun k => spec_SolutionOf.l1 k (n : Int) out (L.map (·.1) ++ Q) (i : Int)) ((L.drop i).foldl (solStep n) out, true) := by
 have hal : (L.map (·.1) ++ Q).length = L.length + Q.length := by simp
 induction d with
|zero =>
  intro i out hd hi ho
  rw [List.drop_eq_nil_of_le (by omega)]
  refine Ev.step (f := fun _ => some (out, true)) (fun k => ?_) (Ev.now _)
  simp only [spec_SolutionOf.l1]
  rw [if_neg (by omega)]
|succ d ih =>
  intro i out hd hi ho
  by_cases h : i < L.length
  ·have hp := hL _ (List.getElem_mem h)
   obtain ⟨a, b, he, hf, hR, _⟩ := fr_eq hp
   have h1 := hp.len;have h2 := hp.col;have h3 := hp.ld;have h4 := hp.pos;have h5 := hp.le;have h6 := hp.val
   have hlead := leadS_ev L[i].1 (by omega)
   rw [h3] at hlead
   have hred := makeS_ev (at0 L[i].1 n) (at0 L[i].1 L[i].2) (by omega) (by omega) (by omega) (by omega) (by omega)
   rw [he] at hred
   have hrow : rd_L1 (L.map (·.1) ++ Q) (i : Int) = L[i].1 := by
    rw [rdL_nat _ i (by omega), List.getElem_append_left (by simpa using h)]
    simp
   rw [List.drop_eq_getElem_cons h, List.foldl_cons]
   refine Ev.step (f := fun k => (spec_l5Lead.f k L[i].1).bind fun t => if t ≥ (n : Int) then spec_SolutionOf.l1 k (n : Int) out (L.map (·.1) ++ Q) ((i + 1 : Nat) : Int) else if 0 ≤ (n : Int) then (if (n : Int) < (L[i].1.length : Int) then (if 0 ≤ t then (if t < (L[i].1.length : Int) then ((spec_l4Make.f k (rd L[i].1 (n : Int)) (rd L[i].1 t)).bind fun bt => if bt.2.2 = true then (if t < (out.length : Int) then spec_SolutionOf.l1 k (n : Int) (out.set t.toNat ⟨bt.1, bt.2.1⟩) (L.map (·.1) ++ Q) ((i + 1 : Nat) : Int) else none) else some ([], false)) else none) else none) else none) else none) (fun k => ?_) (Ev.bind hlead ?_)
   ·simp only [spec_SolutionOf.l1]
    rw [if_pos (by omega), if_pos (by omega), hrow, wrap_id (by omega) (by omega)]
    rfl
   ·simp only [if_neg (show ¬ (L[i].2 : Int) ≥ (n : Int) by omega), if_pos (show (0 : Int) ≤ (n : Int) by omega), if_pos (show (n : Int) < (L[i].1.length : Int) by omega), if_pos (show (0 : Int) ≤ (L[i].2 : Int) by omega), if_pos (show (L[i].2 : Int) < (L[i].1.length : Int) by omega), rd_at0 L[i].1 n (by omega), rd_at0 L[i].1 L[i].2 (by omega)]
    refine Ev.bind hred ?_
    simp only [if_pos (show (L[i].2 : Int) < (out.length : Int) by omega), if_true, Int.toNat_natCast]
    have hs : solStep n out L[i] = out.set L[i].2 ⟨a, b⟩ := by unfold solStep;rw [hf]
    rw [hs]
    exact ih (i + 1) _ (by omega) (by omega) (by simpa using ho)
  ·have hi2 : i - L.length < Q.length := by omega
   have hq := hQ _ (List.getElem_mem hi2)
   have hld := ld_zero _ hq.2
   have hlead := leadS_ev Q[i - L.length] (by omega)
   have hrow : rd_L1 (L.map (·.1) ++ Q) (i : Int) = Q[i - L.length] := by
    rw [rdL_nat _ i (by omega), List.getElem_append_right (by simp;omega)]
    simp
   have hdn : L.drop (i + 1) = L.drop i := by rw [List.drop_eq_nil_of_le (by omega), List.drop_eq_nil_of_le (by omega)]
   have hih := ih (i + 1) out (by omega) (by omega) ho
   rw [hdn] at hih
   refine Ev.step (f := fun k => (spec_l5Lead.f k Q[i - L.length]).bind fun t => if t ≥ (n : Int) then spec_SolutionOf.l1 k (n : Int) out (L.map (·.1) ++ Q) ((i + 1 : Nat) : Int) else if 0 ≤ (n : Int) then (if (n : Int) < (Q[i - L.length].length : Int) then (if 0 ≤ t then (if t < (Q[i - L.length].length : Int) then ((spec_l4Make.f k (rd Q[i - L.length] (n : Int)) (rd Q[i - L.length] t)).bind fun bt => if bt.2.2 = true then (if t < (out.length : Int) then spec_SolutionOf.l1 k (n : Int) (out.set t.toNat ⟨bt.1, bt.2.1⟩) (L.map (·.1) ++ Q) ((i + 1 : Nat) : Int) else none) else some ([], false)) else none) else none) else none) else none) (fun k => ?_) (Ev.bind hlead ?_)
   ·simp only [spec_SolutionOf.l1]
    rw [if_pos (by omega), if_pos (by omega), hrow, wrap_id (by omega) (by omega)]
    rfl
   ·simp only [if_pos (show (ld Q[i - L.length] : Int) ≥ (n : Int) by omega)]
    exact hih
theorem solI_l0 (n : Nat) (R : List (List Int)) (r : List S26 × Bool) (hn : n ≤ 1000) (hend : Ev (fun k => impl_SolutionOf.l1 k (n : Int) (List.replicate n ⟨0, 1⟩) R (R.length : Int) 0) r) (d : Nat) : ∀ (i : Nat) (out : List S26), n - i = d → i ≤ n → out.length = n → out.take i = List.replicate i ⟨0, 1⟩ → Ev (fun k => impl_SolutionOf.l0 k (n : Int) R out (n : Int) (i : Int)) r := by
 induction d with
|zero =>
  intro i out hd hi ho ht
  have e : out = List.replicate n ⟨0, 1⟩ := by
   have e1 : i = n := by omega
   rw [e1, List.take_of_length_le (by omega)] at ht
   exact ht
  rw [e]
  refine Ev.step (fun k => ?_) hend
  simp only [impl_SolutionOf.l0]
  rw [if_neg (by omega)]
|succ d ih =>
  intro i out hd hi ho ht
  refine Ev.step (f := fun k => impl_SolutionOf.l0 k (n : Int) R (out.set i ⟨0, 1⟩) (n : Int) ((i + 1 : Nat) : Int)) (fun k => ?_) (ih (i + 1) _ (by omega) (by omega) (by simpa using ho) ?_)
  ·simp only [impl_SolutionOf.l0]
   rw [if_pos (by omega), if_pos (by omega), if_pos (by omega), wrap_id (by omega) (by omega), Int.toNat_natCast]
   rfl
  ·rw [List.take_succ_eq_append_getElem (by simp;omega), List.take_set_of_le (Nat.le_refl _), ht, List.getElem_set_self, List.replicate_succ']
theorem solS_l0 (m : List (List Int)) (v : List Int) (n : Nat) (r : List S26 × Bool) (hn : n ≤ 1000) (hend : Ev (fun k => (spec_l6Rows.f k m v (n : Int)).bind fun t => spec_SolutionOf.l1 k (n : Int) (List.replicate n ⟨0, 1⟩) t 0) r) (d : Nat) : ∀ (i : Nat), n - i = d → i ≤ n → Ev (fun k => spec_SolutionOf.l0 k m v (n : Int) (List.replicate i ⟨0, 1⟩) (i : Int)) r := by
 induction d with
|zero =>
  intro i hd hi
  have e1 : i = n := by omega
  rw [e1]
  refine Ev.step (fun k => ?_) hend
  simp only [spec_SolutionOf.l0]
  rw [if_neg (by omega)]
|succ d ih =>
  intro i hd hi
  refine Ev.step (f := fun k => spec_SolutionOf.l0 k m v (n : Int) (List.replicate (i + 1) ⟨0, 1⟩) ((i + 1 : Nat) : Int)) (fun k => ?_) (ih (i + 1) (by omega) (by omega))
  simp only [spec_SolutionOf.l0]
  rw [if_pos (by omega), if_pos (by simp;omega), wrap_id (by omega) (by omega), List.replicate_succ']
  rfl
theorem sol_both (m : List (List Int)) (v : List Int) (c : Int) (hm : m.length ≤ 16777216) (hr : ∀ x ∈ m, x.length ≤ 16777216) (hv : v.length ≤ 16777216) : ∃ (ok : Bool) (S : List S26), Ev (fun k => impl_SolutionOf.f k m v c) (S, ok) ∧ Ev (fun k => spec_SolutionOf.f k m v c) (S, ok) ∧ S.length ≤ 1000 ∧
  (ok = false → S = []) ∧ (ok = true → isSys m v c = true ∧ ∃ (n : Nat) (P : List (List Int × Nat)) (Q : List (List Int)), c = (n : Int) ∧ Solved m v n P Q ∧ S = solOf n P.reverse ∧ Ev (fun k => impl_solved.f k m v c) ((P.map (·.1)).reverse, true)) := by
 obtain ⟨ok, R, hI, hS, hR1, hR2, hF, hT⟩ := solved_both m v c hm hr hv
 cases ok with
|false =>
  obtain rfl := hF rfl
  refine ⟨false, [], ?_, ?_, by simp, by simp, by simp⟩
  ·unfold impl_SolutionOf.f
   refine Ev.bind hI ?_
   simp only [Bool.false_eq_true, if_false]
   exact Ev.now _
  ·unfold spec_SolutionOf.f
   refine Ev.bind hS ?_
   simp only [Bool.false_eq_true, if_false]
   exact Ev.now _
|true =>
  obtain ⟨hs, n, P, Q, rfl, hSol, rfl, h6⟩ := hT rfl
  have hp := hSol.pivok
  have hn := hSol.okm.le6
  have hcnt := hSol.cnt
  have hrows := hSol.okm.rows
  have hpr : ∀ p ∈ P.reverse, PivOk n p := fun p hp' => hp p (List.mem_reverse.1 hp')
  have hmr : (P.map (·.1)).reverse = P.reverse.map (·.1) := by rw [List.map_reverse]
  refine ⟨true, solOf n P.reverse, ?_, ?_, by unfold solOf;rw [solStep_len];simp;omega, by simp, fun _ => ⟨hs, n, P, Q, rfl, hSol, rfl, hI⟩⟩
  ·unfold impl_SolutionOf.f
   refine Ev.bind hI ?_
   simp only [if_true, if_pos (show (0 : Int) ≤ (n : Int) by omega), Int.toNat_natCast, if_pos (show n ≤ 17592186044416 by omega), Option.bind_some, List.length_replicate]
   refine solI_l0 n _ _ (by omega) ?_ n 0 _ (by omega) (by omega) (by simp) (by simp)
   rw [hmr]
   have := solI_l1 n P.reverse hpr (by omega) (by simp;omega) _ 0 (List.replicate n ⟨0, 1⟩) rfl (by omega) (by simp)
   simpa [solOf] using this
  ·unfold spec_SolutionOf.f
   refine Ev.bind hS ?_
   simp only [if_true]
   refine solS_l0 m v n _ (by omega) ?_ n 0 (by omega) (by omega)
   refine Ev.bind h6 ?_
   rw [hmr]
   exact solS_l1 n P.reverse Q hpr (fun q hq => ⟨hSol.lenQ q hq, hSol.zero q hq⟩) (by omega) (by simp;omega) _ 0 (List.replicate n ⟨0, 1⟩) rfl (by omega) (by simp)
theorem at0_set (v : List Int) (k : Nat) (x : Int) (h : k < v.length) (j : Nat) : at0 (v.set k x) j = if j = k then x else at0 v j := by
 unfold at0
 rw [List.getD_eq_getElem?_getD, List.getD_eq_getElem?_getD, List.getElem?_set]
 by_cases e : j = k
 ·rw [if_pos e, if_pos e.symm, if_pos (by omega)]
  rfl
 ·rw [if_neg e, if_neg (fun h => e h.symm)]
def dotN (a w : V) : Nat → Int
 | 0 => 0
 | i + 1 => dotN a w i + a i * w i
theorem dotN_zero {a w : V} : ∀ n : Nat, (∀ j, j < n → a j = 0 ∨ w j = 0) → dotN a w n = 0
 | 0, _ => rfl
 | n + 1, h => by
  simp only [dotN]
  rw [dotN_zero n fun j hj => h j (by omega)]
  rcases h n (by omega) with e | e <;> rw [e] <;> simp
theorem dotN_set (a b w : V) (k : Nat) (x : Int) (hb : ∀ j, b j = if j = k then x else a j) : ∀ n : Nat, dotN b w n = dotN a w n + if k < n then (x - a k) * w k else 0
 | 0 => by simp [dotN]
 | n + 1 => by
  simp only [dotN]
  rw [dotN_set a b w k x hb n, hb n]
  by_cases e : n = k
  ·subst e
   rw [if_neg (by omega), if_pos rfl, if_pos (by omega), Int.sub_mul]
   omega
  ·rw [if_neg e]
   by_cases h : k < n
   ·rw [if_pos h, if_pos (by omega)]; omega
   ·rw [if_neg h, if_neg (by omega)]; omega
theorem dotN_bound (a w : V) (B : Nat) : ∀ n : Nat, (∀ j, j < n → (a j * w j).natAbs ≤ B) → (dotN a w n).natAbs ≤ n * B
 | 0, _ => by simp [dotN]
 | n + 1, h => by
  have h1 := dotN_bound a w B n fun j hj => h j (by omega)
  have h2 := h n (by omega)
  simp only [dotN, Nat.add_mul, Nat.one_mul]
  omega
def cmS (l : Int) (p : List Int × Nat) : Int := l / ((Int.gcd l (at0 p.1 p.2) : Nat) : Int) * at0 p.1 p.2
theorem cmS_lcm (l x : Int) (hl : 0 < l) (hx : 0 < x) : l / ((Int.gcd l x : Nat) : Int) * x = ((Nat.lcm l.natAbs x.natAbs : Nat) : Int) := by
 obtain ⟨a, rfl⟩ := Int.eq_ofNat_of_zero_le (Int.le_of_lt hl)
 obtain ⟨b, rfl⟩ := Int.eq_ofNat_of_zero_le (Int.le_of_lt hx)
 rw [show Int.gcd (a : Int) (b : Int) = Nat.gcd a b from rfl, Int.natAbs_natCast, Int.natAbs_natCast]
 have : a / Nat.gcd a b * b = Nat.lcm a b := by
  unfold Nat.lcm
  exact Nat.div_mul_right_comm (Nat.gcd_dvd_left a b) b
 rw [← this]
 simp
theorem cmS_ok (D l : Int) (p : List Int × Nat) (hl : 0 < l) (hx : 0 < at0 p.1 p.2) (h1 : l ∣ D) (h2 : at0 p.1 p.2 ∣ D) : 0 < cmS l p ∧ cmS l p ∣ D ∧ l ∣ cmS l p ∧ at0 p.1 p.2 ∣ cmS l p := by
 unfold cmS
 rw [cmS_lcm l _ hl hx]
 have e1 : 0 < l.natAbs := by omega
 have e2 : 0 < (at0 p.1 p.2).natAbs := by omega
 refine ⟨by have := Nat.lcm_pos e1 e2;omega, ?_, ?_, ?_⟩
 ·rw [Int.ofNat_dvd_left]
  exact Nat.lcm_dvd (Int.natAbs_dvd_natAbs.2 h1) (Int.natAbs_dvd_natAbs.2 h2)
 ·rw [← Int.natAbs_dvd, Int.natCast_dvd_natCast]
  exact Nat.dvd_lcm_left _ _
 ·rw [← Int.natAbs_dvd, Int.natCast_dvd_natCast]
  exact Nat.dvd_lcm_right _ _
theorem cm_ok (D : Int) : ∀ (L : List (List Int × Nat)) (l : Int), (∀ p ∈ L, 0 < at0 p.1 p.2 ∧ at0 p.1 p.2 ∣ D) → 0 < l → l ∣ D → 0 < L.foldl cmS l ∧ L.foldl cmS l ∣ D ∧ l ∣ L.foldl cmS l ∧ ∀ p ∈ L, at0 p.1 p.2 ∣ L.foldl cmS l
|[], l, _, hl, hd => ⟨hl, hd, Int.dvd_refl l, by simp⟩
|p :: L, l, h, hl, hd => by
  obtain ⟨h1, h2⟩ := h p (by simp)
  obtain ⟨k1, k2, k3, k4⟩ := cmS_ok D l p hl h1 hd h2
  obtain ⟨m1, m2, m3, m4⟩ := cm_ok D L (cmS l p) (fun q hq => h q (by simp [hq])) k1 k2
  refine ⟨m1, m2, Int.dvd_trans k3 m3, fun q hq => ?_⟩
  rcases List.mem_cons.1 hq with e|e
  ·rw [e];exact Int.dvd_trans k4 m3
  ·exact m4 q e
def nvStep (c : Int) (f : Nat) (v : List Int) (p : List Int × Nat) : List Int := v.set p.2 (-(at0 p.1 f) * (c / at0 p.1 p.2))
def nvOf (n : Nat) (c : Int) (f : Nat) (L : List (List Int × Nat)) : List Int := L.foldl (nvStep c f) ((List.replicate n 0).set f c)
theorem nvStep_len (c : Int) (f : Nat) : ∀ (L : List (List Int × Nat)) (v : List Int), (L.foldl (nvStep c f) v).length = v.length
 | [], _ => rfl
 | p :: L, v => by
  rw [List.foldl_cons, nvStep_len c f L]
  simp [nvStep]
theorem nv_dot (n : Nat) (c : Int) (f : Nat) (w : V) : ∀ (L : List (List Int × Nat)) (v : List Int), (L.map (·.2)).Nodup → v.length = n → (∀ p ∈ L, p.2 < n ∧ at0 v p.2 = 0) → dotN (at0 (L.foldl (nvStep c f) v)) w n = dotN (at0 v) w n - sumOver (fun p => c / at0 p.1 p.2 * w p.2 * at0 p.1 f) L
|[], v, _, _, _ => by simp [sumOver]
|p :: L, v, hn, hv, h => by
  obtain ⟨h1, h2⟩ := h p (by simp)
  rw [List.map_cons] at hn
  have hn' := List.nodup_cons.1 hn
  have hs := at0_set v p.2 (-(at0 p.1 f) * (c / at0 p.1 p.2)) (by omega)
  rw [List.foldl_cons, nv_dot n c f w L _ hn'.2 (by simp [nvStep, hv]) fun q hq => ?_]
  ·rw [dotN_set (at0 v) (at0 (nvStep c f v p)) w p.2 _ hs n, if_pos h1, h2]
   simp only [sumOver]
   have : (-(at0 p.1 f) * (c / at0 p.1 p.2) - 0) * w p.2 = -(c / at0 p.1 p.2 * w p.2 * at0 p.1 f) := by
    rw [Int.sub_zero, Int.neg_mul, Int.neg_mul, Int.mul_comm (at0 p.1 f), Int.mul_right_comm]
   rw [this]
   omega
  ·obtain ⟨k1, k2⟩ := h q (by simp [hq])
   refine ⟨k1, ?_⟩
   show at0 (v.set p.2 _) q.2 = 0
   rw [hs, if_neg fun e => hn'.1 (by rw [← e];exact List.mem_map_of_mem hq), k2]
theorem at0_rep (n : Nat) (j : Nat) : at0 (List.replicate n 0) j = 0 := by
 unfold at0
 rw [List.getD_eq_getElem?_getD, List.getElem?_replicate]
 split <;> rfl
theorem nv_res (n : Nat) (c : Int) (f : Nat) (L : List (List Int × Nat)) (w : V) (hn : (L.map (·.2)).Nodup) (hf : f < n) (hL : ∀ p ∈ L, p.2 < n) (hfL : ¬ f ∈ L.map (·.2)) : dotN (at0 (nvOf n c f L)) w n = res c L w f := by
 unfold nvOf
 have hs := at0_set (List.replicate n 0) f c (by simpa using hf)
 rw [nv_dot n c f w L _ hn (by simp) fun p hp => ⟨hL p hp, ?_⟩]
 ·rw [dotN_set (at0 (List.replicate n 0)) _ w f c hs n, if_pos hf, at0_rep, dotN_zero n fun j _ => Or.inl (at0_rep n j)]
  unfold res
  simp
 ·rw [hs, if_neg fun e => hfL (by rw [← e]; exact List.mem_map_of_mem hp), at0_rep]
theorem nv_at (c : Int) (f : Nat) : ∀ (L : List (List Int × Nat)) (v : List Int) (B : Nat), (∀ p ∈ L, p.2 < v.length ∧ (c / at0 p.1 p.2 * at0 p.1 f).natAbs ≤ B) → (∀ j, (at0 v j).natAbs ≤ B) → ∀ j, (at0 (L.foldl (nvStep c f) v) j).natAbs ≤ B
|[], v, B, _, h => h
|p :: L, v, B, hL, h => by
  obtain ⟨h1, h2⟩ := hL p (by simp)
  refine nv_at c f L _ B (fun q hq => ?_) fun j => ?_
  ·have := hL q (by simp [hq])
   simpa [nvStep] using this
  ·show (at0 (v.set p.2 _) j).natAbs ≤ B
   rw [at0_set v p.2 _ h1]
   split
   ·rw [Int.neg_mul, Int.natAbs_neg, Int.mul_comm];exact h2
   ·exact h j
theorem sumOver_append {α : Type} (g : α → Int) : ∀ (l m : List α), sumOver g (l ++ m) = sumOver g l + sumOver g m
 | [], m => by simp [sumOver]
 | a :: l, m => by
  simp only [List.cons_append, sumOver]
  rw [sumOver_append g l m]
  omega
theorem sumOver_reverse {α : Type} (g : α → Int) : ∀ l : List α, sumOver g l.reverse = sumOver g l
 | [] => rfl
 | a :: l => by
  rw [List.reverse_cons, sumOver_append, sumOver_reverse g l]
  simp only [sumOver]
  omega
theorem res_reverse (c : Int) (P : List (List Int × Nat)) (w : V) (j : Nat) : res c P.reverse w j = res c P w j := by
 unfold res
 rw [sumOver_reverse]
theorem fp5_le : ∀ n, n < 6 → fct n * 2 ^ n ≤ 3840 ∧ fct n * 2 ^ (n - 1) * 1000 ≤ 1920000 ∧ fct n * 2 ^ (n - 1) * 2 ≤ 3840 := by decide
theorem small_piv5 {S : V → Prop} {c m : Nat} {P : List (List Int × Nat)} {Q : List (List Int)} (h : Red S c P Q) (hb : ∀ o, S o → ∀ j, (o j).natAbs ≤ bnd m j) (hc : c ≤ m) (hm : P.length < 6) :
  ∃ D : Int, 0 < D ∧ D ≤ 3840 ∧ ∀ p ∈ P, ∃ e : Int, 0 < e ∧ D = at0 p.1 p.2 * e ∧ (∀ j, j < m → (e * at0 p.1 j).natAbs ≤ 3840) ∧ ∀ j, (e * at0 p.1 j).natAbs ≤ 1920000 := by
 obtain ⟨D, hD, hDb, hh⟩ := h.st.bound_piv (bnd m) hb h.prim
 have hk : ∀ k ∈ P.map (·.2), k < m := fun k hk => by
  obtain ⟨p, hp, rfl⟩ := List.mem_map.1 hk
  have := h.ncol p hp
  omega
 rw [prod_small m _ hk, List.length_map] at hDb
 have h2 := fp5_le P.length hm
 refine ⟨D.natAbs, by omega, by omega, fun p hp => ?_⟩
 obtain ⟨e, he, hj⟩ := hh p hp
 have hpos := h.pos p hp
 have hnn : (e.natAbs : Int) * at0 p.1 p.2 = D.natAbs := by
  rw [he, Int.natAbs_mul, Int.natCast_mul, Int.mul_comm]
  congr 1
  omega
 have hj' : ∀ j, ((e.natAbs : Int) * at0 p.1 j).natAbs ≤ fct P.length * (bnd m j * 2 ^ (P.length - 1)) := fun j => by
  have := hj j
  rw [prod_small m _ fun k h => hk k (List.mem_of_mem_erase h), List.length_erase_of_mem (List.mem_map_of_mem hp), List.length_map] at this
  rw [Int.natAbs_mul] at this ⊢
  simpa using this
 have he0 : e ≠ 0 := fun e0 => hD (by rw [he, e0, Int.mul_zero])
 refine ⟨e.natAbs, by omega, by rw [← hnn, Int.mul_comm], fun j hjm => ?_, fun j => ?_⟩
 ·have h3 := hj' j
  have h4 : bnd m j = 2 := by unfold bnd;rw [if_pos hjm]
  rw [h4] at h3
  have h5 : fct P.length * (2 * 2 ^ (P.length - 1)) = fct P.length * 2 ^ (P.length - 1) * 2 := by rw [Nat.mul_comm 2, Nat.mul_assoc]
  omega
 ·have h3 := hj' j
  have h4 : fct P.length * (bnd m j * 2 ^ (P.length - 1)) ≤ fct P.length * (1000 * 2 ^ (P.length - 1)) := Nat.mul_le_mul_left _ (Nat.mul_le_mul_right _ (bnd_le m j))
  have h5 : fct P.length * (1000 * 2 ^ (P.length - 1)) = fct P.length * 2 ^ (P.length - 1) * 1000 := by rw [Nat.mul_comm 1000, Nat.mul_assoc]
  omega
structure NvOk (n B : Nat) (D : Int) (p : List Int × Nat) : Prop where
 len : p.1.length = n
 col : p.2 < n
 ld : ld p.1 = p.2
 pos : 0 < at0 p.1 p.2
 ex : ∃ e : Int, 0 < e ∧ D = at0 p.1 p.2 * e ∧ ∀ j, j < n → (e * at0 p.1 j).natAbs ≤ B
theorem NvOk.dvd {n B : Nat} {D : Int} {p : List Int × Nat} (h : NvOk n B D p) : at0 p.1 p.2 ∣ D := by
 obtain ⟨e, _, h, _⟩ := h.ex
 exact ⟨e, h⟩
theorem NvOk.quot {n B : Nat} {D c : Int} {p : List Int × Nat} (h : NvOk n B D p) (hD : 0 < D) (hc : 0 < c) (h1 : c ∣ D) (h2 : at0 p.1 p.2 ∣ c) (j : Nat) (hj : j < n) : (c / at0 p.1 p.2 * at0 p.1 j).natAbs ≤ B := by
 obtain ⟨e, he, hDe, hb⟩ := h.ex
 obtain ⟨u, hu⟩ := h1
 obtain ⟨v, hv⟩ := h2
 have hp := h.pos
 have hu0 : 0 < u := by
  rcases Int.lt_or_le 0 u with h | h
  ·exact h
  ·have : c * u ≤ 0 := Int.mul_nonpos_of_nonneg_of_nonpos (by omega) h
   omega
 have e1 : e = v * u := by
  have : at0 p.1 p.2 * e = at0 p.1 p.2 * (v * u) := by rw [← hDe, hu, hv, Int.mul_assoc]
  exact Int.eq_of_mul_eq_mul_left (by omega) this
 have e2 : c / at0 p.1 p.2 = v := by rw [hv]; exact Int.mul_ediv_cancel_left _ (by omega)
 have := hb j hj
 rw [e1, Int.mul_right_comm, Int.natAbs_mul] at this
 rw [e2]
 have h3 : (v * at0 p.1 j).natAbs * 1 ≤ (v * at0 p.1 j).natAbs * u.natAbs := Nat.mul_le_mul_left _ (by omega)
 omega
theorem dotI_l0 (a b : List Int) (n : Nat) (ha : a.length = n) (hb : b.length = n) (hn : n ≤ 1000) (hs : ∀ j, j < n → (at0 a j * at0 b j).natAbs ≤ 1099511627776) (d : Nat) : ∀ i : Nat, n - i = d → i ≤ n → Ev (fun k => impl_DotOf.l0 k a b (dotN (at0 a) (at0 b) i) (n : Int) (i : Int)) (dotN (at0 a) (at0 b) n) := by
 induction d with
|zero =>
  intro i hd hi
  have e : i = n := by omega
  subst e
  refine Ev.step (f := fun _ => some (dotN (at0 a) (at0 b) i)) (fun k => ?_) (Ev.now _)
  simp only [impl_DotOf.l0]
  rw [if_neg (by omega)]
|succ d ih =>
  intro i hd hi
  have h1 := dotN_bound (at0 a) (at0 b) 1099511627776 i fun j hj => hs j (by omega)
  have h2 := hs i (by omega)
  have h3 : i * 1099511627776 ≤ 1000 * 1099511627776 := Nat.mul_le_mul_right _ (by omega)
  refine Ev.step (f := fun k => impl_DotOf.l0 k a b (dotN (at0 a) (at0 b) (i + 1)) (n : Int) ((i + 1 : Nat) : Int)) (fun k => ?_) (ih (i + 1) (by omega) (by omega))
  simp only [impl_DotOf.l0]
  rw [if_pos (by omega), if_pos (by omega), if_pos (by omega), if_pos (by omega), at0_rd, at0_rd, wrap_id (x := (i : Int) + 1) (by omega) (by omega), wrap_id (x := at0 a i * at0 b i) (by omega) (by omega), wrap_id (by omega) (by omega)]
  rfl
theorem dotI_ev (a b : List Int) (n : Nat) (ha : a.length = n) (hb : b.length = n) (hn : n ≤ 1000) (hs : ∀ j, j < n → (at0 a j * at0 b j).natAbs ≤ 1099511627776) : Ev (fun k => impl_DotOf.f k a b) (dotN (at0 a) (at0 b) n) := by
 unfold impl_DotOf.f
 have e : mn (a.length : Int) (b.length : Int) = (n : Int) := by rw [ha, hb]; unfold mn; split <;> rfl
 rw [e]
 exact dotI_l0 a b n ha hb hn hs n 0 (by omega) (by omega)
theorem nullI_l2 (row : List Int) (n : Nat) (c : Int) (bg : List Bool) (f : Nat) (L : List (List Int × Nat)) (r : List Int) {B : Nat} {D : Int} (hB : B ≤ 46080) (hn : n ≤ 1000) (hl : L.length ≤ 1000) (hD : 0 < D) (hL : ∀ p ∈ L, NvOk n B D p) (hc : 0 < c) (hcD : c ∣ D) (hpc : ∀ p ∈ L, at0 p.1 p.2 ∣ c) (hcs : c ≤ 46080) (hf : f < n)
  (v0 : List Int) (hend : ∀ v, v = L.foldl (nvStep c f) v0 → Ev (fun k => (impl_DotOf.f k v row).bind fun t => if t = 0 then impl_NullVector.l1 k row (n : Int) (L.map (·.1)) c bg (n : Int) ((f + 1 : Nat) : Int) else some v) r) (d : Nat) : ∀ (i : Nat) (v : List Int), L.length - i = d → i ≤ L.length → v.length = n → (L.drop i).foldl (nvStep c f) v = L.foldl (nvStep c f) v0 →
  Ev (fun k => impl_NullVector.l2 k row (n : Int) (L.map (·.1)) c bg (f : Int) v (n : Int) (f : Int) (L.map (·.1)) (L.length : Int) (i : Int)) r := by
 induction d with
|zero =>
  intro i v hd hi hv hq
  rw [List.drop_eq_nil_of_le (by omega)] at hq
  refine Ev.step (fun k => ?_) (hend v hq)
  simp only [impl_NullVector.l2]
  rw [if_neg (by omega), wrap_id (by omega) (by omega)]
  rfl
|succ d ih =>
  intro i v hd hi hv hq
  have h : i < L.length := by omega
  have hpm := List.getElem_mem h
  have hp := hL _ hpm
  have h1 := hp.len;have h2 := hp.col;have h3 := hp.ld;have h4 := hp.pos
  have hlead := leadI_ev L[i].1 (by omega)
  rw [if_pos (by omega), h3] at hlead
  have hrow : rd_L1 (L.map (·.1)) (i : Int) = L[i].1 := by
   rw [rdL_nat _ i (by simpa using h)]
   simp
  have hqt := hp.quot hD hc hcD (hpc _ hpm) f hf
  have hqp := hp.quot hD hc hcD (hpc _ hpm) L[i].2 h2
  have hdv : c / at0 L[i].1 L[i].2 * at0 L[i].1 L[i].2 = c := Int.ediv_mul_cancel (hpc _ hpm)
  have hcq : 0 ≤ c / at0 L[i].1 L[i].2 := Int.ediv_nonneg (by omega) (by omega)
  have hcq2 : c / at0 L[i].1 L[i].2 ≤ c := Int.ediv_le_self _ (by omega)
  obtain ⟨e0, he0, _, heb⟩ := hp.ex
  have hxf : (at0 L[i].1 f).natAbs ≤ 46080 := by
   have := heb f hf
   rw [Int.natAbs_mul] at this
   have h5 : 1 * (at0 L[i].1 f).natAbs ≤ e0.natAbs * (at0 L[i].1 f).natAbs := Nat.mul_le_mul_right _ (by omega)
   omega
  rw [List.drop_eq_getElem_cons h, List.foldl_cons] at hq
  refine Ev.step (f := fun k => (impl_lead.f k L[i].1).bind fun t => if 0 ≤ (f : Int) then (if (f : Int) < (L[i].1.length : Int) then (if 0 ≤ t then (if t < (L[i].1.length : Int) then (if (rd L[i].1 t) = 0 then none else (if t < (v.length : Int) then impl_NullVector.l2 k row (n : Int) (L.map (·.1)) c bg (f : Int) (v.set t.toNat (wrap64 ((wrap64 (-(rd L[i].1 (f : Int)))) * (wrap64 (Int.tdiv c (rd L[i].1 t)))))) (n : Int) (f : Int) (L.map (·.1)) (L.length : Int) ((i + 1 : Nat) : Int) else none)) else none) else none) else none) else none) (fun k => ?_) (Ev.bind hlead ?_)
  ·simp only [impl_NullVector.l2]
   rw [if_pos (by omega), if_pos (by omega), if_pos (by simpa using h), hrow, wrap_id (x := (i : Int) + 1) (by omega) (by omega)]
   rfl
  ·have e1 : wrap64 ((wrap64 (-(at0 L[i].1 f))) * (wrap64 (Int.tdiv c (at0 L[i].1 L[i].2)))) = -(at0 L[i].1 f) * (c / at0 L[i].1 L[i].2) := by
    rw [Int.tdiv_eq_ediv_of_nonneg (by omega), wrap_id (x := -(at0 L[i].1 f)) (by omega) (by omega), wrap_id (x := c / at0 L[i].1 L[i].2) (by omega) (by omega)]
    rw [show -(at0 L[i].1 f) * (c / at0 L[i].1 L[i].2) = -(c / at0 L[i].1 L[i].2 * at0 L[i].1 f) by rw [Int.neg_mul, Int.mul_comm]]
    exact wrap_id (by omega) (by omega)
   simp only [if_pos (show (0 : Int) ≤ (f : Int) by omega), if_pos (show (f : Int) < (L[i].1.length : Int) by omega), if_pos (show (0 : Int) ≤ (L[i].2 : Int) by omega), if_pos (show (L[i].2 : Int) < (L[i].1.length : Int) by omega), at0_rd, if_neg (show ¬ at0 L[i].1 L[i].2 = 0 by omega), if_pos (show (L[i].2 : Int) < (v.length : Int) by omega), Int.toNat_natCast, e1]
   exact ih (i + 1) _ (by omega) (by omega) (by simpa using hv) hq
def nvFrom (n : Nat) (c : Int) (L : List (List Int × Nat)) (row : List Int) : Nat → Nat → List Int
 | 0, _ => []
 | d + 1, f => if f ∈ L.map (·.2) then nvFrom n c L row d (f + 1) else if dotN (at0 (nvOf n c f L)) (at0 row) n = 0 then nvFrom n c L row d (f + 1) else nvOf n c f L
structure NvAll (n B : Nat) (D c : Int) (L : List (List Int × Nat)) (row : List Int) : Prop where
 hB : B ≤ 46080
 hn : n ≤ 1000
 hl : L.length ≤ 1000
 hD : 0 < D
 hL : ∀ p ∈ L, NvOk n B D p
 hc : 0 < c
 hcD : c ∣ D
 hpc : ∀ p ∈ L, at0 p.1 p.2 ∣ c
 hcs : c ≤ B
 hr : row.length = n
 hrs : ∀ j, (at0 row j).natAbs ≤ 1000
theorem nv_small {n B : Nat} {D c : Int} {L : List (List Int × Nat)} {row : List Int} (h : NvAll n B D c L row) (f : Nat) (hf : f < n) : (nvOf n c f L).length = n ∧ ∀ j, (at0 (nvOf n c f L) j).natAbs ≤ B := by
 refine ⟨by unfold nvOf;rw [nvStep_len];simp, ?_⟩
 unfold nvOf
 refine nv_at c f L _ B (fun p hp => ⟨by simpa using (h.hL p hp).col, (h.hL p hp).quot h.hD h.hc h.hcD (h.hpc p hp) f hf⟩) fun j => ?_
 have h1 := h.hc;have h2 := h.hcs
 rw [at0_set _ f c (by simpa using hf), at0_rep]
 split
 ·omega
 ·exact Nat.zero_le _
theorem nv_dotI {n B : Nat} {D c : Int} {L : List (List Int × Nat)} {row : List Int} (h : NvAll n B D c L row) (f : Nat) (hf : f < n) : ∀ j, j < n → (at0 (nvOf n c f L) j * at0 row j).natAbs ≤ 1099511627776 := by
 intro j _
 have h1 := (nv_small h f hf).2 j
 have h2 := h.hrs j
 have h3 := h.hB
 rw [Int.natAbs_mul]
 exact Nat.le_trans (Nat.mul_le_mul (Nat.le_trans h1 h3) h2) (by omega)
theorem nullI_l1 {n B : Nat} {D c : Int} {L : List (List Int × Nat)} {row : List Int} (h : NvAll n B D c L row) (bg : List Bool) (hbl : bg.length = n) (hbg : ∀ j, j < n → bg.getD j false = decide (j ∈ L.map (·.2))) (d : Nat) : ∀ f : Nat, n - f = d → f ≤ n → Ev (fun k => impl_NullVector.l1 k row (n : Int) (L.map (·.1)) c bg (n : Int) (f : Int)) (nvFrom n c L row d f) := by
 have hn := h.hn
 induction d with
|zero =>
  intro f hd hf
  refine Ev.step (f := fun _ => some []) (fun k => ?_) (Ev.now _)
  simp only [impl_NullVector.l1]
  rw [if_neg (by omega)]
|succ d ih =>
  intro f hd hf
  have hfn : f < n := by omega
  have hrd : rdOf false bg (f : Int) = decide (f ∈ L.map (·.2)) := by
   unfold rdOf
   rw [Int.toNat_natCast]
   exact hbg f hfn
  by_cases hm : f ∈ L.map (·.2)
  ·unfold nvFrom
   rw [if_pos hm]
   refine Ev.step (fun k => ?_) (ih (f + 1) (by omega) (by omega))
   simp only [impl_NullVector.l1]
   rw [if_pos (by omega), if_pos (by omega), if_pos (by omega), hrd, decide_eq_true hm, if_pos rfl, wrap_id (by omega) (by omega)]
   rfl
  ·unfold nvFrom
   rw [if_neg hm]
   have hs := nv_small h f hfn
   have hl2 := nullI_l2 row n c bg f L (if dotN (at0 (nvOf n c f L)) (at0 row) n = 0 then nvFrom n c L row d (f + 1) else nvOf n c f L) h.hB hn h.hl h.hD h.hL h.hc h.hcD h.hpc (by have := h.hcs;have := h.hB;omega) hfn ((List.replicate n 0).set f c) (fun v hv => ?_) L.length 0 ((List.replicate n 0).set f c) (by omega) (by omega) (by simp) (by rw [List.drop_zero])
   ·refine Ev.step (fun k => ?_) hl2
    simp only [impl_NullVector.l1]
    rw [if_pos (by omega), if_pos (by omega), if_pos (by omega), hrd, decide_eq_false hm, if_neg (by decide), if_pos (by omega), if_pos (by rw [Int.toNat_natCast];omega)]
    simp only [Option.bind_some, Int.toNat_natCast, List.length_replicate, if_pos (show (f : Int) < (n : Int) by omega), List.length_map]
    rfl
   ·have e : v = nvOf n c f L := hv
    subst e
    refine Ev.bind (dotI_ev _ row n hs.1 h.hr hn (nv_dotI h f hfn)) ?_
    by_cases h0 : dotN (at0 (nvOf n c f L)) (at0 row) n = 0
    ·simp only [if_pos h0]
     exact ih (f + 1) (by omega) (by omega)
    ·simp only [if_neg h0]
     exact Ev.now _
def bgStep (b : List Bool) (p : List Int × Nat) : List Bool := b.set p.2 true
theorem bg_len : ∀ (L : List (List Int × Nat)) (b : List Bool), (L.foldl bgStep b).length = b.length
 | [], _ => rfl
 | p :: L, b => by
  rw [List.foldl_cons, bg_len L]
  simp [bgStep]
theorem bg_at : ∀ (L : List (List Int × Nat)) (b : List Bool) (j : Nat), j < b.length → (L.foldl bgStep b).getD j false = (b.getD j false || decide (j ∈ L.map (·.2)))
 | [], b, j, _ => by simp
 | p :: L, b, j, hj => by
  rw [List.foldl_cons, bg_at L _ j (by simpa [bgStep] using hj)]
  unfold bgStep
  rw [List.getD_eq_getElem?_getD, List.getElem?_set, List.getD_eq_getElem?_getD]
  by_cases e : p.2 = j
  ·rw [if_pos e, if_pos (by omega)]
   simp [e]
  ·rw [if_neg e]
   have : (j ∈ (p :: L).map (·.2)) ↔ (j ∈ L.map (·.2)) := by
    rw [List.map_cons, List.mem_cons]
    exact ⟨fun h => h.resolve_left fun h => e h.symm, Or.inr⟩
   rw [decide_eq_decide.2 this]
theorem nullI_l0 (row : List Int) (n B : Nat) (D : Int) (L : List (List Int × Nat)) (r : List Int) (hB : B ≤ 46080) (hn : n ≤ 1000) (hl : L.length ≤ 1000) (hD : 0 < D) (hDB : D ≤ 46080) (hL : ∀ p ∈ L, NvOk n B D p) (hend : Ev (fun k => impl_NullVector.l1 k row (n : Int) (L.map (·.1)) (L.foldl cmS 1) (L.foldl bgStep (List.replicate n false)) (n : Int) 0) r) (d : Nat) :
  ∀ (i : Nat) (c : Int) (b : List Bool), L.length - i = d → i ≤ L.length → b.length = n → 0 < c → c ∣ D → (L.drop i).foldl cmS c = L.foldl cmS 1 → (L.drop i).foldl bgStep b = L.foldl bgStep (List.replicate n false) → Ev (fun k => impl_NullVector.l0 k row (n : Int) (L.map (·.1)) c b (L.map (·.1)) (L.length : Int) (i : Int)) r := by
 induction d with
|zero =>
  intro i c b hd hi hb hc hcD h1 h2
  rw [List.drop_eq_nil_of_le (by omega)] at h1 h2
  rw [show c = L.foldl cmS 1 from h1, show b = L.foldl bgStep (List.replicate n false) from h2]
  refine Ev.step (fun k => ?_) hend
  simp only [impl_NullVector.l0]
  rw [if_neg (by omega)]
|succ d ih =>
  intro i c b hd hi hb hc hcD h1 h2
  have h : i < L.length := by omega
  have hpm := List.getElem_mem h
  have hp := hL _ hpm
  have k1 := hp.len;have k2 := hp.col;have k3 := hp.ld;have k4 := hp.pos
  have hlead := leadI_ev L[i].1 (by omega)
  rw [if_pos (by omega), k3] at hlead
  have hrow : rd_L1 (L.map (·.1)) (i : Int) = L[i].1 := by
   rw [rdL_nat _ i (by simpa using h)]
   simp
  have hcl : c ≤ D := Int.le_of_dvd hD hcD
  have hpl : at0 L[i].1 L[i].2 ≤ D := Int.le_of_dvd hD hp.dvd
  obtain ⟨m1, m2, m3, m4⟩ := cmS_ok D c L[i] hc k4 hcD hp.dvd
  have hml : cmS c L[i] ≤ D := Int.le_of_dvd hD m2
  have hg := gcdI_ev c (at0 L[i].1 L[i].2) (by omega) (by omega) (by omega) (by omega)
  have hgp : 0 < Int.gcd c (at0 L[i].1 L[i].2) := by
   rcases Nat.eq_zero_or_pos (Int.gcd c (at0 L[i].1 L[i].2)) with h|h
   ·have := (Int.gcd_eq_zero_iff.1 h).1
    omega
   ·exact h
  have hq0 : 0 ≤ c / ((Int.gcd c (at0 L[i].1 L[i].2) : Nat) : Int) := Int.ediv_nonneg (by omega) (by omega)
  have hq1 : c / ((Int.gcd c (at0 L[i].1 L[i].2) : Nat) : Int) ≤ c := Int.ediv_le_self _ (by omega)
  rw [List.drop_eq_getElem_cons h, List.foldl_cons] at h1 h2
  refine Ev.step (f := fun k => (impl_lead.f k L[i].1).bind fun t => if 0 ≤ t then (if t < (b.length : Int) then (if t < (L[i].1.length : Int) then ((impl_gcd.f k c (rd L[i].1 t)).bind fun g => if g = 0 then none else impl_NullVector.l0 k row (n : Int) (L.map (·.1)) (wrap64 ((wrap64 (Int.tdiv c g)) * (rd L[i].1 t))) (b.set t.toNat true) (L.map (·.1)) (L.length : Int) ((i + 1 : Nat) : Int)) else none) else none) else none) (fun k => ?_) (Ev.bind hlead ?_)
  ·simp only [impl_NullVector.l0]
   rw [if_pos (by omega), if_pos (by omega), if_pos (by simpa using h), hrow, wrap_id (x := (i : Int) + 1) (by omega) (by omega)]
   rfl
  ·simp only [if_pos (show (0 : Int) ≤ (L[i].2 : Int) by omega), if_pos (show (L[i].2 : Int) < (L[i].1.length : Int) by omega), at0_rd, if_pos (show (L[i].2 : Int) < (b.length : Int) by omega), Int.toNat_natCast]
   refine Ev.bind hg ?_
   have e1 : wrap64 (wrap64 (Int.tdiv c ((Int.gcd c (at0 L[i].1 L[i].2) : Nat) : Int)) * at0 L[i].1 L[i].2) = cmS c L[i] := by
    rw [Int.tdiv_eq_ediv_of_nonneg (by omega), wrap_id (x := c / _) (by omega) (by omega)]
    exact wrap_id (show (-9223372036854775808 : Int) ≤ cmS c L[i] by omega) (show cmS c L[i] < 9223372036854775808 by omega)
   simp only [if_neg (show ¬ ((Int.gcd c (at0 L[i].1 L[i].2) : Nat) : Int) = 0 by omega), e1]
   exact ih (i + 1) _ _ (by omega) (by omega) (by simpa using hb) m1 m2 h1 h2
theorem dotS_l0 (a b : List Int) (n : Nat) (ha : a.length = n) (hb : b.length = n) (hn : n ≤ 1000) (hs : ∀ j, j < n → (at0 a j * at0 b j).natAbs ≤ 1099511627776) (d : Nat) : ∀ i : Nat, n - i = d → i ≤ n → Ev (fun k => spec_DotOf.l0 k a b (dotN (at0 a) (at0 b) i) (i : Int)) (dotN (at0 a) (at0 b) n) := by
 induction d with
|zero =>
  intro i hd hi
  have e : i = n := by omega
  subst e
  refine Ev.step (f := fun _ => some (dotN (at0 a) (at0 b) i)) (fun k => ?_) (Ev.now _)
  simp only [spec_DotOf.l0]
  rw [if_neg (by omega)]
|succ d ih =>
  intro i hd hi
  have h1 := dotN_bound (at0 a) (at0 b) 1099511627776 i fun j hj => hs j (by omega)
  have h2 := hs i (by omega)
  have h3 : i * 1099511627776 ≤ 1000 * 1099511627776 := Nat.mul_le_mul_right _ (by omega)
  refine Ev.step (f := fun k => spec_DotOf.l0 k a b (dotN (at0 a) (at0 b) (i + 1)) ((i + 1 : Nat) : Int)) (fun k => ?_) (ih (i + 1) (by omega) (by omega))
  simp only [spec_DotOf.l0]
  rw [if_pos (by omega), if_pos (by omega), if_pos (by omega), at0_rd, at0_rd, wrap_id (x := (i : Int) + 1) (by omega) (by omega), wrap_id (x := at0 a i * at0 b i) (by omega) (by omega), wrap_id (by omega) (by omega)]
  rfl
theorem dotS_ev (a b : List Int) (n : Nat) (ha : a.length = n) (hb : b.length = n) (hn : n ≤ 1000) (hs : ∀ j, j < n → (at0 a j * at0 b j).natAbs ≤ 1099511627776) : Ev (fun k => spec_DotOf.f k a b) (dotN (at0 a) (at0 b) n) := by
 unfold spec_DotOf.f
 exact dotS_l0 a b n ha hb hn hs n 0 (by omega) (by omega)
theorem nullS_l2 {n B : Nat} {D c : Int} {L : List (List Int × Nat)} {row : List Int} (h : NvAll n B D c L row) (f : Nat) (hf : f < n) (d : Nat) : ∀ (i : Nat) (v : List Int), L.length - i = d → i ≤ L.length → v.length = n → Ev (fun k => spec_l5Null.l2 k (L.map (·.1)) (f : Int) c v (i : Int)) ((L.drop i).foldl (nvStep c f) v) := by
 have hn := h.hn;have hl := h.hl;have hB := h.hB;have hc := h.hc;have hcs := h.hcs
 induction d with
|zero =>
  intro i v hd hi hv
  rw [List.drop_eq_nil_of_le (by omega)]
  refine Ev.step (f := fun _ => some v) (fun k => ?_) (Ev.now v)
  simp only [spec_l5Null.l2]
  rw [if_neg (by rw [List.length_map];omega)]
|succ d ih =>
  intro i v hd hi hv
  have hi2 : i < L.length := by omega
  have hpm := List.getElem_mem hi2
  have hp := h.hL _ hpm
  have h1 := hp.len;have h2 := hp.col;have h3 := hp.ld;have h4 := hp.pos
  have hlead := leadS_ev L[i].1 (by omega)
  rw [h3] at hlead
  have hrow : rd_L1 (L.map (·.1)) (i : Int) = L[i].1 := by
   rw [rdL_nat _ i (by simpa using hi2)]
   simp
  have hqt := hp.quot h.hD h.hc h.hcD (h.hpc _ hpm) f hf
  have hcq : 0 ≤ c / at0 L[i].1 L[i].2 := Int.ediv_nonneg (by omega) (by omega)
  have hcq2 : c / at0 L[i].1 L[i].2 ≤ c := Int.ediv_le_self _ (by omega)
  rw [List.drop_eq_getElem_cons hi2, List.foldl_cons]
  refine Ev.step (f := fun k => (spec_l5Lead.f k L[i].1).bind fun t => if 0 ≤ t then (if t < (L[i].1.length : Int) then (if (rd L[i].1 t) = 0 then none else (if 0 ≤ (f : Int) then (if (f : Int) < (L[i].1.length : Int) then (if t < (v.length : Int) then spec_l5Null.l2 k (L.map (·.1)) (f : Int) c (v.set t.toNat (wrap64 ((wrap64 (-(wrap64 (Int.tdiv c (rd L[i].1 t))))) * (rd L[i].1 (f : Int))))) ((i + 1 : Nat) : Int) else none) else none) else none)) else none) else none) (fun k => ?_) (Ev.bind hlead ?_)
  ·simp only [spec_l5Null.l2]
   rw [if_pos (by rw [List.length_map];omega), if_pos (by omega), hrow, wrap_id (x := (i : Int) + 1) (by omega) (by omega)]
   rfl
  ·have e1 : wrap64 ((wrap64 (-(wrap64 (Int.tdiv c (at0 L[i].1 L[i].2))))) * at0 L[i].1 f) = -(at0 L[i].1 f) * (c / at0 L[i].1 L[i].2) := by
    rw [Int.tdiv_eq_ediv_of_nonneg (by omega), wrap_id (x := c / at0 L[i].1 L[i].2) (by omega) (by omega), wrap_id (x := -(c / at0 L[i].1 L[i].2)) (by omega) (by omega)]
    rw [show -(at0 L[i].1 f) * (c / at0 L[i].1 L[i].2) = -(c / at0 L[i].1 L[i].2 * at0 L[i].1 f) by rw [Int.neg_mul, Int.mul_comm], Int.neg_mul]
    exact wrap_id (by omega) (by omega)
   simp only [if_pos (show (0 : Int) ≤ (f : Int) by omega), if_pos (show (f : Int) < (L[i].1.length : Int) by omega), if_pos (show (0 : Int) ≤ (L[i].2 : Int) by omega), if_pos (show (L[i].2 : Int) < (L[i].1.length : Int) by omega), at0_rd, if_neg (show ¬ at0 L[i].1 L[i].2 = 0 by omega), if_pos (show (L[i].2 : Int) < (v.length : Int) by omega), Int.toNat_natCast, e1]
   exact ih (i + 1) _ (by omega) (by omega) (by simpa using hv)
theorem nullS_l1 {n B : Nat} {D c : Int} {L : List (List Int × Nat)} {row : List Int} (h : NvAll n B D c L row) (f : Nat) (hf : f < n) (d : Nat) : ∀ (i : Nat), n - i = d → i ≤ n → Ev (fun k => spec_l5Null.l1 k (L.map (·.1)) (n : Int) (f : Int) c (List.replicate i 0) (i : Int)) (nvOf n c f L) := by
 have hn := h.hn
 induction d with
|zero =>
  intro i hd hi
  have e : i = n := by omega
  subst e
  have hl2 := nullS_l2 h f hf L.length 0 ((List.replicate i 0).set f c) (by omega) (by omega) (by simp)
  refine Ev.step (fun k => ?_) hl2
  simp only [spec_l5Null.l1]
  rw [if_neg (by omega), if_pos (by omega), if_pos (by rw [List.length_replicate];omega), Int.toNat_natCast]
  rfl
|succ d ih =>
  intro i hd hi
  refine Ev.step (f := fun k => spec_l5Null.l1 k (L.map (·.1)) (n : Int) (f : Int) c (List.replicate (i + 1) 0) ((i + 1 : Nat) : Int)) (fun k => ?_) (ih (i + 1) (by omega) (by omega))
  simp only [spec_l5Null.l1]
  rw [if_pos (by omega), if_pos (by rw [List.length_replicate];omega), wrap_id (by omega) (by omega), List.replicate_succ']
  rfl
theorem nullS_l0 {n B : Nat} {D c : Int} {L : List (List Int × Nat)} {row : List Int} (h : NvAll n B D c L row) (hc0 : c = L.foldl cmS 1) (f : Nat) (hf : f < n) (d : Nat) : ∀ (i : Nat) (c0 : Int), L.length - i = d → i ≤ L.length → 0 < c0 → c0 ∣ c → (L.drop i).foldl cmS c0 = c → Ev (fun k => spec_l5Null.l0 k (L.map (·.1)) (n : Int) (f : Int) c0 (i : Int)) (nvOf n c f L) := by
 have hn := h.hn;have hl := h.hl;have hB := h.hB;have hc := h.hc;have hcs := h.hcs
 induction d with
|zero =>
  intro i c0 hd hi hc1 hcD h1
  rw [List.drop_eq_nil_of_le (by omega)] at h1
  obtain rfl : c0 = c := h1
  refine Ev.step (fun k => ?_) (nullS_l1 h f hf n 0 (by omega) (by omega))
  simp only [spec_l5Null.l0]
  rw [if_neg (by rw [List.length_map];omega)]
  rfl
|succ d ih =>
  intro i c0 hd hi hc1 hcD h1
  have hi2 : i < L.length := by omega
  have hpm := List.getElem_mem hi2
  have hp := h.hL _ hpm
  have k1 := hp.len;have k2 := hp.col;have k3 := hp.ld;have k4 := hp.pos
  have hlead := leadS_ev L[i].1 (by omega)
  rw [k3] at hlead
  have hrow : rd_L1 (L.map (·.1)) (i : Int) = L[i].1 := by
   rw [rdL_nat _ i (by simpa using hi2)]
   simp
  have hcl : c0 ≤ c := Int.le_of_dvd hc hcD
  have hpl : at0 L[i].1 L[i].2 ≤ c := Int.le_of_dvd hc (h.hpc _ hpm)
  obtain ⟨m1, m2, m3, m4⟩ := cmS_ok c c0 L[i] hc1 k4 hcD (h.hpc _ hpm)
  have hml : cmS c0 L[i] ≤ c := Int.le_of_dvd hc m2
  have hg := gcdS_ev c0 (at0 L[i].1 L[i].2) (by omega) (by omega) (by omega) (by omega)
  have hgp : 0 < Int.gcd c0 (at0 L[i].1 L[i].2) := by
   rcases Nat.eq_zero_or_pos (Int.gcd c0 (at0 L[i].1 L[i].2)) with h|h
   ·have := (Int.gcd_eq_zero_iff.1 h).1
    omega
   ·exact h
  have hq0 : 0 ≤ c0 / ((Int.gcd c0 (at0 L[i].1 L[i].2) : Nat) : Int) := Int.ediv_nonneg (by omega) (by omega)
  have hq1 : c0 / ((Int.gcd c0 (at0 L[i].1 L[i].2) : Nat) : Int) ≤ c0 := Int.ediv_le_self _ (by omega)
  rw [List.drop_eq_getElem_cons hi2, List.foldl_cons] at h1
  refine Ev.step (f := fun k => (spec_l5Lead.f k L[i].1).bind fun t => if 0 ≤ t then (if t < (L[i].1.length : Int) then ((spec_l4Gcd.f k c0 (rd L[i].1 t)).bind fun g => if g = 0 then none else spec_l5Null.l0 k (L.map (·.1)) (n : Int) (f : Int) (wrap64 ((wrap64 (Int.tdiv c0 g)) * (rd L[i].1 t))) ((i + 1 : Nat) : Int)) else none) else none) (fun k => ?_) (Ev.bind hlead ?_)
  ·simp only [spec_l5Null.l0]
   rw [if_pos (by rw [List.length_map];omega), if_pos (by omega), hrow, wrap_id (x := (i : Int) + 1) (by omega) (by omega)]
   rfl
  ·simp only [if_pos (show (0 : Int) ≤ (L[i].2 : Int) by omega), if_pos (show (L[i].2 : Int) < (L[i].1.length : Int) by omega), at0_rd]
   refine Ev.bind hg ?_
   have e1 : wrap64 (wrap64 (Int.tdiv c0 ((Int.gcd c0 (at0 L[i].1 L[i].2) : Nat) : Int)) * at0 L[i].1 L[i].2) = cmS c0 L[i] := by
    rw [Int.tdiv_eq_ediv_of_nonneg (by omega), wrap_id (x := c0 / _) (by omega) (by omega)]
    exact wrap_id (show (-9223372036854775808 : Int) ≤ cmS c0 L[i] by omega) (show cmS c0 L[i] < 9223372036854775808 by omega)
   simp only [if_neg (show ¬ ((Int.gcd c0 (at0 L[i].1 L[i].2) : Nat) : Int) = 0 by omega), e1]
   exact ih (i + 1) _ (by omega) (by omega) m1 m2 h1
theorem nullS_nv {n B : Nat} {D c : Int} {L : List (List Int × Nat)} {row : List Int} (h : NvAll n B D c L row) (hc0 : c = L.foldl cmS 1) (f : Nat) (hf : f < n) : Ev (fun k => spec_l5Null.f k (L.map (·.1)) (n : Int) (f : Int)) (nvOf n c f L) := by
 unfold spec_l5Null.f
 exact nullS_l0 h hc0 f hf L.length 0 1 (by omega) (by omega) (by omega) ⟨c, by omega⟩ (by rw [List.drop_zero, hc0])
theorem nullSV_l1 {n B : Nat} {D c : Int} {L : List (List Int × Nat)} {row : List Int} (h : NvAll n B D c L row) (f : Nat) (hf : f < n) (r : List Int) (hend : Ev (fun k => if f ∈ L.map (·.2) then spec_NullVector.l0 k row (L.map (·.1)) ((f + 1 : Nat) : Int) else (spec_l5Null.f k (L.map (·.1)) (n : Int) (f : Int)).bind fun v => (spec_DotOf.f k v row).bind fun t => if t = 0 then spec_NullVector.l0 k row (L.map (·.1)) ((f + 1 : Nat) : Int) else some v) r) (d : Nat) :
  ∀ (i : Nat) (b : Bool), L.length - i = d → i ≤ L.length → (b = true ∨ f ∈ (L.drop i).map (·.2) ↔ f ∈ L.map (·.2)) → Ev (fun k => spec_NullVector.l1 k row (L.map (·.1)) (f : Int) b (i : Int)) r := by
 have hn := h.hn;have hl := h.hl
 induction d with
|zero =>
  intro i b hd hi hb
  rw [List.drop_eq_nil_of_le (by omega)] at hb
  refine Ev.step (fun k => ?_) hend
  simp only [spec_NullVector.l1]
  rw [if_neg (by rw [List.length_map];omega), h.hr, wrap_id (x := (f : Int) + 1) (by omega) (by omega)]
  have hb2 : b = true ↔ f ∈ L.map (·.2) := by simpa using hb
  by_cases e : b = true
  ·rw [if_pos e, if_pos (hb2.1 e)]
   rfl
  ·rw [if_neg e, if_neg fun h => e (hb2.2 h)]
   rfl
|succ d ih =>
  intro i b hd hi hb
  have hi2 : i < L.length := by omega
  have hpm := List.getElem_mem hi2
  have hp := h.hL _ hpm
  have k1 := hp.len;have k2 := hp.col;have k3 := hp.ld;have k4 := hp.pos
  have hlead := leadS_ev L[i].1 (by omega)
  rw [k3] at hlead
  have hrow : rd_L1 (L.map (·.1)) (i : Int) = L[i].1 := by
   rw [rdL_nat _ i (by simpa using hi2)]
   simp
  rw [List.drop_eq_getElem_cons hi2, List.map_cons, List.mem_cons] at hb
  cases b with
 |true =>
   refine Ev.step (f := fun k => spec_NullVector.l1 k row (L.map (·.1)) (f : Int) true ((i + 1 : Nat) : Int)) (fun k => ?_) (ih (i + 1) true (by omega) (by omega) (by simpa using hb))
   simp only [spec_NullVector.l1]
   rw [if_pos (by rw [List.length_map];omega), if_pos trivial, wrap_id (x := (i : Int) + 1) (by omega) (by omega)]
   rfl
 |false =>
   refine Ev.step (f := fun k => (spec_l5Lead.f k L[i].1).bind fun t => spec_NullVector.l1 k row (L.map (·.1)) (f : Int) (t == (f : Int)) ((i + 1 : Nat) : Int)) (fun k => ?_) (Ev.bind hlead (ih (i + 1) _ (by omega) (by omega) ?_))
   ·simp only [spec_NullVector.l1]
    rw [if_pos (by rw [List.length_map];omega), if_neg (by decide), if_pos (by omega), hrow, wrap_id (x := (i : Int) + 1) (by omega) (by omega)]
    rfl
   ·rw [← hb, beq_iff_eq]
    constructor
    ·rintro (h|h)
     ·exact Or.inr (Or.inl (by omega))
     ·exact Or.inr (Or.inr h)
    ·rintro (h|h|h)
     ·cases h
     ·exact Or.inl (by omega)
     ·exact Or.inr h
theorem nullSV_l0 {n B : Nat} {D c : Int} {L : List (List Int × Nat)} {row : List Int} (h : NvAll n B D c L row) (hc0 : c = L.foldl cmS 1) (d : Nat) : ∀ f : Nat, n - f = d → f ≤ n → Ev (fun k => spec_NullVector.l0 k row (L.map (·.1)) (f : Int)) (nvFrom n c L row d f) := by
 have hn := h.hn;have hl := h.hl;have hr := h.hr
 induction d with
|zero =>
  intro f hd hf
  refine Ev.step (f := fun _ => some []) (fun k => ?_) (Ev.now _)
  simp only [spec_NullVector.l0]
  rw [if_neg (by omega)]
|succ d ih =>
  intro f hd hf
  have hfn : f < n := by omega
  have hs := nv_small h f hfn
  refine Ev.step (f := fun k => spec_NullVector.l1 k row (L.map (·.1)) (f : Int) false ((0 : Nat) : Int)) (fun k => ?_) (nullSV_l1 h f hfn _ ?_ L.length 0 false (by omega) (by omega) (by simp))
  ·simp only [spec_NullVector.l0]
   rw [if_pos (by omega)]
   rfl
  ·unfold nvFrom
   by_cases hm : f ∈ L.map (·.2)
   ·simp only [if_pos hm]
    exact ih (f + 1) (by omega) (by omega)
   ·simp only [if_neg hm]
    refine Ev.bind (nullS_nv h hc0 f hfn) ?_
    refine Ev.bind (dotS_ev _ row n hs.1 h.hr hn (nv_dotI h f hfn)) ?_
    by_cases h0 : dotN (at0 (nvOf n c f L)) (at0 row) n = 0
    ·simp only [if_pos h0]
     exact ih (f + 1) (by omega) (by omega)
    ·simp only [if_neg h0]
     exact Ev.now _
theorem piv_all {S : V → Prop} {n : Nat} {P : List (List Int × Nat)} {Q : List (List Int)} (h : Red S n P Q) (hl : n ≤ P.length) : ∀ j, j < n → j ∈ P.map (·.2) := by
 have e := sorted_sub (P.map (·.2)) (List.range n).reverse h.sorted (by rw [List.pairwise_reverse]; exact List.pairwise_lt_range) (fun k hk => by
  obtain ⟨p, hp, rfl⟩ := List.mem_map.1 hk
  simpa using h.ncol p hp) (by simpa using hl)
 intro j hj
 rw [e]
 simpa using hj
theorem full_span {m : List (List Int)} {row : List Int} {n : Nat} {P : List (List Int × Nat)} {Q : List (List Int)} (h : Red (RowSp m) n P Q) (hP : ∀ p ∈ P, p.1.length = n) (hr : row.length = n) (hl : n ≤ P.length) : Sp (RowSp m) (at0 row) := by
 refine sp_of_res (P := P) (common_ne h.st.piv.2.1) h.st.inP fun j => ?_
 rcases Nat.lt_or_ge j n with hj|hj
 ·obtain ⟨p, hp, e⟩ := List.mem_map.1 (piv_all h hl j hj)
  rw [← e]
  exact res_piv h.st.piv (common P) dvd_common (at0 row) p hp
 ·unfold res
  rw [at0_out (by rw [hr];exact hj), sumOver_zero _ _ fun q hq => by
   rw [show at0 q.1 j = 0 from at0_out (by rw [hP q hq];exact hj)];simp]
  simp
theorem nvFrom_ok (n : Nat) (c : Int) (L : List (List Int × Nat)) (row : List Int) (f0 : Nat) (d : Nat) : ∀ f : Nat, f + d = n → f ≤ f0 → f0 < n → ¬ f0 ∈ L.map (·.2) → dotN (at0 (nvOf n c f0 L)) (at0 row) n ≠ 0 → ∃ g, g < n ∧ ¬ g ∈ L.map (·.2) ∧ dotN (at0 (nvOf n c g L)) (at0 row) n ≠ 0 ∧ nvFrom n c L row d f = nvOf n c g L := by
 induction d with
|zero => intro f h1 h2 h3;omega
|succ d ih =>
  intro f h1 h2 h3 h4 h5
  unfold nvFrom
  by_cases hm : f ∈ L.map (·.2)
  ·rw [if_pos hm]
   refine ih (f + 1) (by omega) ?_ h3 h4 h5
   rcases Nat.lt_or_ge f f0 with h|h
   ·exact h
   ·have : f = f0 := by omega
    subst this
    exact absurd hm h4
  ·rw [if_neg hm]
   by_cases h0 : dotN (at0 (nvOf n c f L)) (at0 row) n = 0
   ·rw [if_pos h0]
    refine ih (f + 1) (by omega) ?_ h3 h4 h5
    rcases Nat.lt_or_ge f f0 with h|h
    ·exact h
    ·have : f = f0 := by omega
     subst this
     exact absurd h0 h5
   ·rw [if_neg h0]
    exact ⟨f, by omega, hm, h0, rfl⟩
structure NullOf (m : List (List Int)) (row v : List Int) : Prop where
 len : v.length = row.length
 zero : ∀ r ∈ m, dotN (at0 v) (at0 r) row.length = 0
 one : dotN (at0 v) (at0 row) row.length ≠ 0
 small : ∀ j, (at0 v j).natAbs ≤ 3840
theorem null_both (m : List (List Int)) (row : List Int) (hm : m.length ≤ 16777216) (hr : ∀ x ∈ m, x.length ≤ 16777216) (hl : row.length ≤ 16777216) : ∃ v : List Int, Ev (fun k => impl_NullVector.f k m row) v ∧ Ev (fun k => spec_NullVector.f k m row) v ∧ v.length ≤ 1000 ∧
  (bothB m row = false → v = []) ∧ (Sp (RowSp m) (at0 row) → v = []) ∧ (bothB m row = true → ¬ Sp (RowSp m) (at0 row) → NullOf m row v ∧ ∃ n : Nat, row.length = n ∧ Okm m n n) := by
 have h1 := implMat_ev m hm hr (row.length : Int)
 have h2 := implMat_ev [row] (by simp) (fun x hx => by rw [List.mem_singleton.1 hx];exact hl) (row.length : Int)
 have s1 := specMat_ev m hm hr (row.length : Int)
 have s2 := specMat_ev [row] (by simp) (fun x hx => by rw [List.mem_singleton.1 hx];exact hl) (row.length : Int)
 have hboth : Ev (fun k => spec_l5Both.f k m row) (bothB m row) := by
  unfold spec_l5Both.f bothB
  refine Ev.bind s1 ?_
  cases isMat m (row.length : Int) with
 |false =>
   simp only [Bool.false_eq_true, if_false, Bool.false_and]
   exact Ev.now _
 |true =>
   simp only [if_true, Bool.true_and]
   exact Ev.bind s2 (Ev.now _)
 have hjI : Ev (fun k => impl_NullVector.j0 k m row (row.length : Int) true) [] := Ev.step (f := fun _ => some []) (fun k => by simp only [impl_NullVector.j0];rw [if_pos trivial]) (Ev.now _)
 have hjS : Ev (fun k => spec_NullVector.j0 k m row true) [] := Ev.step (f := fun _ => some []) (fun k => by simp only [spec_NullVector.j0];rw [if_pos trivial]) (Ev.now _)
 cases hb : bothB m row with
|false =>
  rw [hb] at hboth
  refine ⟨[], ?_, ?_, by simp, by simp, by simp, by simp⟩
  ·unfold impl_NullVector.f
   refine Ev.bind h1 ?_
   cases e1 : isMat m (row.length : Int) with
  |false =>
    simp only [Bool.false_eq_true, if_false]
    exact hjI
  |true =>
    simp only [if_true]
    refine Ev.bind h2 ?_
    have e2 : isMat [row] (row.length : Int) = false := by simpa [bothB, e1] using hb
    rw [e2]
    simp only [Bool.false_eq_true, if_false]
    exact hjI
  ·unfold spec_NullVector.f
   refine Ev.bind hboth ?_
   simp only [Bool.false_eq_true, if_false]
   exact hjS
|true =>
  have hb1 : isMat m (row.length : Int) = true ∧ isMat [row] (row.length : Int) = true := by simpa [bothB] using hb
  obtain ⟨b, bI, bS, bi, _⟩ := span_both m row hm hr hl
  have hbi := bi hb
  have key : ∀ v, Ev (fun k => impl_NullVector.j0 k m row (row.length : Int) b) v → Ev (fun k => spec_NullVector.j0 k m row b) v → Ev (fun k => impl_NullVector.f k m row) v ∧ Ev (fun k => spec_NullVector.f k m row) v := fun v k1 k2 => by
   constructor
   ·unfold impl_NullVector.f
    rw [hb1.1] at h1
    rw [hb1.2] at h2
    refine Ev.bind h1 ?_
    simp only [if_true]
    refine Ev.bind h2 ?_
    simp only [if_true]
    exact Ev.bind bI k1
   ·unfold spec_NullVector.f
    rw [hb] at hboth
    refine Ev.bind hboth ?_
    simp only [if_true]
    exact Ev.bind bS k2
  cases b with
 |true =>
   obtain ⟨k1, k2⟩ := key [] hjI hjS
   exact ⟨[], k1, k2, by simp, by simp, fun _ => rfl, fun _ h => absurd (hbi.1 rfl) h⟩
 |false =>
   have hns : ¬ Sp (RowSp m) (at0 row) := fun h => by have := hbi.2 h;cases this
   obtain ⟨R, hS, hRl, hRr, hT, _⟩ := specRR_ev m (row.length : Int) hm hr
   obtain ⟨n, P, Q, hn, hok, hR, hP, hz, hRe⟩ := hT hb1.1
   obtain ⟨P2, Q2, hR2, hP2, hQ2, hevI⟩ := implRed hok
   have heq : P = P2 := hR.eq hz hR2 (fun v => Iff.rfl) hP hP2
   subst heq
   obtain ⟨n2, hn2, hok2, _⟩ := okm_of_isMat hb1.2
   have e1 : row.length = n := by omega
   have e2 : n2 = n := by omega
   subst e2
   have hlen : P.length < n2 := by
    rcases Nat.lt_or_ge P.length n2 with h|h
    ·exact h
    ·exact absurd (full_span hR hP e1 h) hns
   have hle := hok.le6
   obtain ⟨D, hD, hD2, he⟩ := small_piv5 hR hok.start.1 (Nat.le_refl _) (by omega)
   have hrs := hok2.small row (by simp)
   have hL : ∀ p ∈ P.reverse, NvOk n2 3840 D p := fun p hp => by
    have hp' := List.mem_reverse.1 hp
    obtain ⟨e, k1, k2, k3, _⟩ := he p hp'
    have hpos := hR.pos p hp'
    exact ⟨hP p hp', hR.ncol p hp', ld_eq p.1 p.2 (hR.lead p hp') (by omega), hpos, e, k1, k2, k3⟩
   obtain ⟨c1, c2, _, c4⟩ := cm_ok D P.reverse 1 (fun p hp => ⟨(hL p hp).pos, (hL p hp).dvd⟩) (by omega) ⟨D, by omega⟩
   generalize hcg : P.reverse.foldl cmS 1 = c at c1 c2 c4
   have hall : NvAll n2 3840 D c P.reverse row := ⟨by omega, by omega, by rw [List.length_reverse];omega, hD, hL, c1, c2, c4, by have := Int.le_of_dvd hD c2;omega, e1, fun j => by
    have := hrs j
    have := bnd_le n2 j
    omega⟩
   have hmr : (P.map (·.1)).reverse = P.reverse.map (·.1) := by rw [List.map_reverse]
   rw [hmr] at hevI hRe
   obtain ⟨k1, k2⟩ := key (nvFrom n2 c P.reverse row n2 0) (by
    refine Ev.step (f := fun k => (impl_reduceAny.f k m (n2 : Int)).bind fun t => impl_NullVector.l0 k row (n2 : Int) t 1 (List.replicate n2 false) t (t.length : Int) 0) (fun k => ?_) (Ev.bind hevI ?_)
    ·simp only [impl_NullVector.j0, e1]
     rw [if_neg (by decide)]
     simp only [if_pos (show (0 : Int) ≤ (n2 : Int) by omega), Int.toNat_natCast, if_pos (show n2 ≤ 281474976710656 by omega)]
    ·rw [List.length_map]
     refine nullI_l0 row n2 3840 D P.reverse _ (by omega) (by omega) (by rw [List.length_reverse];omega) hD (by omega) hL ?_ P.reverse.length 0 1 _ (by omega) (by omega) (by simp) (by omega) ⟨D, by omega⟩ (by rw [List.drop_zero]) (by rw [List.drop_zero])
     rw [hcg]
     refine nullI_l1 hall _ (by rw [bg_len];simp) (fun j hj => ?_) n2 0 (by omega) (by omega)
     rw [bg_at _ _ _ (by simpa using hj)]
     simp [List.getD_eq_getElem?_getD, List.getElem?_replicate, hj]) (by
    refine Ev.step (f := fun k => (spec_ReduceRows.f k m (row.length : Int)).bind fun t => spec_NullVector.l0 k row t 0) (fun k => ?_) (Ev.bind hS ?_)
    ·simp only [spec_NullVector.j0]
     rw [if_neg (by decide)]
    ·rw [hRe]
     exact nullSV_l0 hall hcg.symm n2 0 (by omega) (by omega))
   have hnd : (P.reverse.map (·.2)).Nodup := by rw [List.map_reverse];unfold List.Nodup;rw [List.pairwise_reverse];exact hR.st.piv.1.imp fun h => Ne.symm h
   have hcp : ∀ p ∈ P, at0 p.1 p.2 ∣ c := fun p hp => c4 p (List.mem_reverse.2 hp)
   have hdot : ∀ g w, g < n2 → ¬ g ∈ P.reverse.map (·.2) → dotN (at0 (nvOf n2 c g P.reverse)) w n2 = res c P w g := fun g w hg hgm => by
    rw [nv_res n2 c g P.reverse w hnd hg (fun p hp => (hL p hp).col) hgm, res_reverse]
   have hex : ∃ f0, f0 < n2 ∧ ¬ f0 ∈ P.reverse.map (·.2) ∧ dotN (at0 (nvOf n2 c f0 P.reverse)) (at0 row) n2 ≠ 0 := by
    refine Classical.byContradiction fun hno => hns ?_
    refine sp_of_res (P := P) (L := c) (by omega) hR.st.inP fun j => ?_
    rcases Nat.lt_or_ge j n2 with hj|hj
    ·by_cases hjm : j ∈ P.reverse.map (·.2)
     ·obtain ⟨p, hp, e⟩ := List.mem_map.1 hjm
      rw [← e]
      exact res_piv hR.st.piv c hcp (at0 row) p (List.mem_reverse.1 hp)
     ·rw [← hdot j (at0 row) hj hjm]
      exact Classical.byContradiction fun h => hno ⟨j, hj, hjm, h⟩
    ·unfold res
     rw [at0_out (by rw [e1];exact hj), sumOver_zero _ _ fun q hq => by
      rw [show at0 q.1 j = 0 from at0_out (by rw [hP q hq];exact hj)];simp]
     simp
   obtain ⟨f0, q1, q2, q3⟩ := hex
   obtain ⟨g, g1, g2, g3, g4⟩ := nvFrom_ok n2 c P.reverse row f0 n2 0 (by omega) (by omega) q1 q2 q3
   rw [g4] at k1 k2
   have hgs := nv_small hall g g1
   refine ⟨_, k1, k2, by rw [hgs.1];omega, by simp, fun h => absurd h hns, fun _ _ => ⟨⟨by rw [hgs.1, e1], fun r hr => ?_, by rw [e1];exact g3, hgs.2⟩, n2, e1, hok⟩⟩
   rw [e1, hdot g _ g1 g2]
   exact res_span hR.st.piv c hcp (hR.span hz (Sp.of ⟨r, hr, rfl⟩)) g
theorem mul_bd {x y : Int} {A B : Nat} (hx : x.natAbs ≤ A) (hy : y.natAbs ≤ B) : (x * y).natAbs ≤ A * B := by
 rw [Int.natAbs_mul]
 exact Nat.mul_le_mul hx hy
theorem den_pos {b d : Int} (hb : 1 ≤ b) (hd : 1 ≤ d) : 0 < b * d := Int.mul_pos (by omega) (by omega)
def addOf (a b c d : Int) : Int × Int × Bool := if isR a b = true ∧ isR c d = true then redOf (a * d + c * b) (b * d) else (0, 0, false)
theorem SAdd_ev (a b c d : Int) : Ev (fun k => spec_AddRatios.f k a b c d) (addOf a b c d) := by
 unfold spec_AddRatios.f addOf
 refine Ev.bind (isRS_ev a b) ?_
 by_cases c1 : isR a b = true
 ·simp only [c1, if_true, true_and]
  refine Ev.bind (isRS_ev c d) ?_
  by_cases c2 : isR c d = true
  ·simp only [c2, if_true]
   have h1 := (isR_iff a b).1 c1
   have h2 := (isR_iff c d).1 c2
   have m1 := mul_bd (x := a) (y := d) (A := 1000000000) (B := 1000000000) (by omega) (by omega)
   have m2 := mul_bd (x := c) (y := b) (A := 1000000000) (B := 1000000000) (by omega) (by omega)
   have m3 := mul_bd (x := b) (y := d) (A := 1000000000) (B := 1000000000) (by omega) (by omega)
   have m4 := mul_bd (x := a) (y := c) (A := 1000000000) (B := 1000000000) (by omega) (by omega)
   have m5 := den_pos h1.2.1.1 h2.2.1.1
   have e1 : wrap64 (a * d) = a * d := wrap_id (by omega) (by omega)
   have e2 : wrap64 (c * b) = c * b := wrap_id (by omega) (by omega)
   have e3 : wrap64 (b * d) = b * d := wrap_id (by omega) (by omega)
   have e4 : wrap64 (a * d + c * b) = a * d + c * b := wrap_id (by omega) (by omega)
   have e5 : wrap64 (a * c) = a * c := wrap_id (by omega) (by omega)
   simp only [e1, e2, e3, e4, e5]
   exact Ev.bind (makeS_ev (a * d + c * b) (b * d) (by omega) (by omega) (by omega) (by omega) (by omega)) (Ev.now _)
  ·simp only [if_neg c2]
   exact Ev.now _
 ·simp only [if_neg c1]
  rw [if_neg fun h => c1 h.1]
  exact Ev.now _
theorem IAdd_ev (a b c d : Int) : Ev (fun k => impl_AddRatios.f k a b c d) (addOf a b c d) := by
 unfold impl_AddRatios.f addOf
 refine Ev.bind (isRI_ev a b) ?_
 by_cases c1 : isR a b = true
 ·simp only [c1, if_true, true_and]
  refine Ev.bind (isRI_ev c d) ?_
  by_cases c2 : isR c d = true
  ·simp only [c2, if_true]
   have h1 := (isR_iff a b).1 c1
   have h2 := (isR_iff c d).1 c2
   have m1 := mul_bd (x := a) (y := d) (A := 1000000000) (B := 1000000000) (by omega) (by omega)
   have m2 := mul_bd (x := c) (y := b) (A := 1000000000) (B := 1000000000) (by omega) (by omega)
   have m3 := mul_bd (x := b) (y := d) (A := 1000000000) (B := 1000000000) (by omega) (by omega)
   have m4 := mul_bd (x := a) (y := c) (A := 1000000000) (B := 1000000000) (by omega) (by omega)
   have m5 := den_pos h1.2.1.1 h2.2.1.1
   have e1 : wrap64 (a * d) = a * d := wrap_id (by omega) (by omega)
   have e2 : wrap64 (c * b) = c * b := wrap_id (by omega) (by omega)
   have e3 : wrap64 (b * d) = b * d := wrap_id (by omega) (by omega)
   have e4 : wrap64 (a * d + c * b) = a * d + c * b := wrap_id (by omega) (by omega)
   have e5 : wrap64 (a * c) = a * c := wrap_id (by omega) (by omega)
   simp only [e1, e2, e3, e4, e5]
   exact Ev.bind (redI_ev (a * d + c * b) (b * d) (by omega) (by omega) (by omega) (by omega) (by omega)) (Ev.now _)
  ·simp only [if_neg c2]
   exact Ev.now _
 ·simp only [if_neg c1]
  rw [if_neg fun h => c1 h.1]
  exact Ev.now _
def yFrom : List S26 → List Int → List S26 → List S26 × Bool
 | q :: x, n :: v, out => if (addOf q.f0 q.f1 n 1).2.2 = true then yFrom x v (out ++ [⟨(addOf q.f0 q.f1 n 1).1, (addOf q.f0 q.f1 n 1).2.1⟩]) else ([], false)
 | _, _, out => (out, true)
def twoOf (x : List S26) (t : List S26 × Bool) : List S26 × List S26 × Bool := if t.2 = true then (x, t.1, true) else ([], [], false)
theorem yFrom_len : ∀ (x : List S26) (v : List Int) (out : List S26), (yFrom x v out).1.length ≤ out.length + x.length
 | [], _, out => by unfold yFrom; simp
 | _ :: _, [], out => by unfold yFrom; simp
 | q :: x, n :: v, out => by
  unfold yFrom
  split
  ·have := yFrom_len x v (out ++ [⟨(addOf q.f0 q.f1 n 1).1, (addOf q.f0 q.f1 n 1).2.1⟩])
   simp only [List.length_append, List.length_cons, List.length_nil] at this ⊢
   omega
  ·simp
theorem yFrom_at : ∀ (x : List S26) (v : List Int) (out : List S26), x.length = v.length → (yFrom x v out).2 = true → ∃ T : List S26, (yFrom x v out).1 = out ++ T ∧ T.length = x.length ∧ ∀ j (h : j < T.length) (h2 : j < x.length), addOf x[j].f0 x[j].f1 (at0 v j) 1 = (T[j].f0, T[j].f1, true)
|[], v, out, _, _ => ⟨[], by unfold yFrom;simp, rfl, by simp⟩
|q :: x, [], out, h, _ => by simp at h
|q :: x, n :: v, out, h, hy => by
  unfold yFrom at hy ⊢
  by_cases c : (addOf q.f0 q.f1 n 1).2.2 = true
  ·rw [if_pos c] at hy ⊢
   obtain ⟨T, e, hl, hT⟩ := yFrom_at x v _ (by simpa using h) hy
   refine ⟨⟨(addOf q.f0 q.f1 n 1).1, (addOf q.f0 q.f1 n 1).2.1⟩ :: T, by rw [e];simp, by simp [hl], fun j hj hj2 => ?_⟩
   cases j with
  |zero =>
    show addOf q.f0 q.f1 n 1 = ((addOf q.f0 q.f1 n 1).1, (addOf q.f0 q.f1 n 1).2.1, true)
    rw [← c]
  |succ j => exact hT j (by simpa using hj) (by simpa using hj2)
  ·rw [if_neg c] at hy
   simp at hy
theorem rdT (x : List S26) (i : Nat) (h : i < x.length) : rd_T26 x (i : Int) = x[i] := by
 unfold rd_T26
 rw [Int.toNat_natCast, List.getD_eq_getElem?_getD, List.getElem?_eq_getElem h]
 rfl
theorem two_step (x : List S26) (q : S26) (n : Int) (X : List S26) (v : List Int) (out : List S26) : twoOf x (yFrom (q :: X) (n :: v) out) = if (addOf q.f0 q.f1 n 1).2.2 = true then twoOf x (yFrom X v (out ++ [⟨(addOf q.f0 q.f1 n 1).1, (addOf q.f0 q.f1 n 1).2.1⟩])) else ([], [], false) := by
 rw [yFrom]
 split
 ·rfl
 ·rfl
theorem two_nil (x : List S26) (v : List Int) (out : List S26) : twoOf x (yFrom [] v out) = (x, out, true) := by
 unfold yFrom twoOf
 rfl
theorem twoI_l0 (x : List S26) (v : List Int) (hx : x.length ≤ 1000) (hv : v.length = x.length) (d : Nat) : ∀ (i : Nat) (out : List S26), x.length - i = d → out.length ≤ i → i ≤ x.length → Ev (fun k => impl_TwoSolutions.l0 k x v out (x.length : Int) (i : Int)) (twoOf x (yFrom (x.drop i) (v.drop i) out)) := by
 induction d with
|zero =>
  intro i out hd ho hi
  rw [show x.drop i = [] from List.drop_eq_nil_of_le (by omega), two_nil]
  refine Ev.step (f := fun _ => some (x, out, true)) (fun k => ?_) (Ev.now _)
  simp only [impl_TwoSolutions.l0]
  rw [if_neg (by omega)]
|succ d ih =>
  intro i out hd ho hi
  have h1 : i < x.length := by omega
  have h2 : i < v.length := by omega
  rw [List.drop_eq_getElem_cons h1, List.drop_eq_getElem_cons h2, two_step]
  refine Ev.step (f := fun k => (impl_AddRatios.f k x[i].f0 x[i].f1 v[i] 1).bind fun z => if z.2.2 = true then impl_TwoSolutions.l0 k x v (out ++ [⟨z.1, z.2.1⟩]) (x.length : Int) ((i + 1 : Nat) : Int) else some ([], [], false)) (fun k => ?_) (Ev.bind (IAdd_ev _ _ _ _) ?_)
  ·simp only [impl_TwoSolutions.l0]
   rw [if_pos (by omega), if_pos (by omega), if_pos (by omega), if_pos (by omega), rdT x i h1, rd_nat v i h2, wrap_id (by omega) (by omega)]
   simp only [if_pos (show out.length < 8796093022208 by omega)]
   rfl
  ·by_cases c : (addOf x[i].f0 x[i].f1 v[i] 1).2.2 = true
   ·simp only [if_pos c]
    exact ih (i + 1) _ (by omega) (by simp;omega) (by omega)
   ·simp only [if_neg c]
    exact Ev.now _
theorem twoS_l0 (x : List S26) (v : List Int) (hx : x.length ≤ 1000) (hv : v.length = x.length) (d : Nat) : ∀ (i : Nat) (out : List S26), x.length - i = d → out.length ≤ i → i ≤ x.length → Ev (fun k => spec_TwoSolutions.l0 k x v out (i : Int)) (twoOf x (yFrom (x.drop i) (v.drop i) out)) := by
 induction d with
|zero =>
  intro i out hd ho hi
  rw [show x.drop i = [] from List.drop_eq_nil_of_le (by omega), two_nil]
  refine Ev.step (f := fun _ => some (x, out, true)) (fun k => ?_) (Ev.now _)
  simp only [spec_TwoSolutions.l0]
  rw [if_neg (by omega)]
|succ d ih =>
  intro i out hd ho hi
  have h1 : i < x.length := by omega
  have h2 : i < v.length := by omega
  rw [List.drop_eq_getElem_cons h1, List.drop_eq_getElem_cons h2, two_step]
  refine Ev.step (f := fun k => (spec_AddRatios.f k x[i].f0 x[i].f1 v[i] 1).bind fun z => if z.2.2 = true then spec_TwoSolutions.l0 k x v (out ++ [⟨z.1, z.2.1⟩]) ((i + 1 : Nat) : Int) else some ([], [], false)) (fun k => ?_) (Ev.bind (SAdd_ev _ _ _ _) ?_)
  ·simp only [spec_TwoSolutions.l0]
   rw [if_pos (by omega), if_pos (by omega), if_pos (by omega), rdT x i h1, rd_nat v i h2, wrap_id (by omega) (by omega)]
   simp only [if_pos (show out.length < 8796093022208 by omega)]
   rfl
  ·by_cases c : (addOf x[i].f0 x[i].f1 v[i] 1).2.2 = true
   ·simp only [if_pos c]
    exact ih (i + 1) _ (by omega) (by simp;omega) (by omega)
   ·simp only [if_neg c]
    exact Ev.now _
structure TwoFacts (m : List (List Int)) (v row : List Int) (S T : List S26) : Prop where
 sol : isSys m v (row.length : Int) = true ∧ ∃ (P : List (List Int × Nat)) (Q : List (List Int)), Solved m v row.length P Q ∧ S = solOf row.length P.reverse
 lenS : S.length = row.length
 lenT : T.length = row.length
 nul : bothB m row = true ∧ ¬ Sp (RowSp m) (at0 row) ∧ ∃ u, NullOf m row u ∧ ∀ j (h : j < T.length) (h2 : j < S.length), addOf S[j].f0 S[j].f1 (at0 u j) 1 = (T[j].f0, T[j].f1, true)
theorem two_both (m : List (List Int)) (v row : List Int) (hm : m.length ≤ 16777216) (hr : ∀ x ∈ m, x.length ≤ 16777216) (hv : v.length ≤ 16777216) (hl : row.length ≤ 16777216) : ∃ (S T : List S26) (ok : Bool), Ev (fun k => impl_TwoSolutions.f k m v row) (S, T, ok) ∧ Ev (fun k => spec_TwoSolutions.f k m v row) (S, T, ok) ∧ S.length ≤ 1000 ∧ T.length ≤ 1000 ∧ (ok = true → TwoFacts m v row S T) := by
 obtain ⟨b, X, hXI, hXS, hXl, hXF, hXT⟩ := sol_both m v (row.length : Int) hm hr hv
 obtain ⟨u, hUI, hUS, hUl, hU1, hU2, hU3⟩ := null_both m row hm hr hl
 have hjI : ∀ X, Ev (fun k => impl_TwoSolutions.j0 k X u true) ([], [], false) := fun X => Ev.step (f := fun _ => some ([], [], false)) (fun k => by simp only [impl_TwoSolutions.j0];rw [if_pos trivial]) (Ev.now _)
 have hjS : ∀ X, Ev (fun k => spec_TwoSolutions.j0 k X u true) ([], [], false) := fun X => Ev.step (f := fun _ => some ([], [], false)) (fun k => by simp only [spec_TwoSolutions.j0];rw [if_pos trivial]) (Ev.now _)
 cases b with
|false =>
  refine ⟨[], [], false, ?_, ?_, by simp, by simp, by simp⟩
  ·unfold impl_TwoSolutions.f
   refine Ev.bind hXI ?_
   refine Ev.bind hUI ?_
   simp only [Bool.false_eq_true, if_false]
   exact hjI _
  ·unfold spec_TwoSolutions.f
   refine Ev.bind hXS ?_
   refine Ev.bind hUS ?_
   simp only [Bool.false_eq_true, if_false]
   exact hjS _
|true =>
  obtain ⟨hsys, n, P, Q, hn, hSol, hXe, _⟩ := hXT rfl
  have e1 : row.length = n := by omega
  subst e1
  have hsl : X.length = row.length := by rw [hXe];unfold solOf;rw [solStep_len];simp
  by_cases hu0 : u = []
  ·subst hu0
   refine ⟨[], [], false, ?_, ?_, by simp, by simp, by simp⟩
   ·unfold impl_TwoSolutions.f
    refine Ev.bind hXI ?_
    refine Ev.bind hUI ?_
    simp only [if_true]
    exact hjI _
   ·unfold spec_TwoSolutions.f
    refine Ev.bind hXS ?_
    refine Ev.bind hUS ?_
    simp only [if_true]
    exact hjS _
  ·have hb : bothB m row = true := by
    cases h : bothB m row with
   |true => rfl
   |false => exact absurd (hU1 h) hu0
   have hns : ¬ Sp (RowSp m) (at0 row) := fun h => hu0 (hU2 h)
   obtain ⟨hN, _⟩ := hU3 hb hns
   have hlen : u.length = X.length := by rw [hN.len, hsl]
   have hz : ((u.length : Int) == 0) = false := by
    have : u.length ≠ 0 := fun h => hu0 (List.eq_nil_of_length_eq_zero h)
    rw [beq_eq_false_iff_ne]
    omega
   have k1 : Ev (fun k => impl_TwoSolutions.f k m v row) (twoOf X (yFrom X u [])) := by
    unfold impl_TwoSolutions.f
    refine Ev.bind hXI ?_
    refine Ev.bind hUI ?_
    simp only [if_true, hz]
    refine Ev.step (fun k => ?_) (twoI_l0 X u hXl hlen X.length 0 [] (by omega) (by simp) (by omega))
    simp only [impl_TwoSolutions.j0]
    rw [if_neg (by decide)]
    rfl
   have k2 : Ev (fun k => spec_TwoSolutions.f k m v row) (twoOf X (yFrom X u [])) := by
    unfold spec_TwoSolutions.f
    refine Ev.bind hXS ?_
    refine Ev.bind hUS ?_
    simp only [if_true, hz]
    refine Ev.step (fun k => ?_) (twoS_l0 X u hXl hlen X.length 0 [] (by omega) (by simp) (by omega))
    simp only [spec_TwoSolutions.j0]
    rw [if_neg (by decide)]
    rfl
   have hyl := yFrom_len X u []
   by_cases c : (yFrom X u []).2 = true
   ·have e : twoOf X (yFrom X u []) = (X, (yFrom X u []).1, true) := by unfold twoOf;rw [if_pos c]
    rw [e] at k1 k2
    obtain ⟨T, hT, hTl, hTa⟩ := yFrom_at X u [] hlen.symm c
    rw [List.nil_append] at hT
    rw [hT] at k1 k2
    refine ⟨X, T, true, k1, k2, hXl, by omega, fun _ => ⟨⟨hsys, P, Q, hSol, hXe⟩, hsl, by omega, hb, hns, u, hN, hTa⟩⟩
   ·have e : twoOf X (yFrom X u []) = ([], [], false) := by unfold twoOf;rw [if_neg c]
    rw [e] at k1 k2
    exact ⟨[], [], false, k1, k2, by simp, by simp, by simp⟩
theorem markIntS_l0 (d : Nat) : ∀ (x : List Int) (a : Int) (i : Nat), x.length ≤ 16777216 → x.length - i = d → i ≤ x.length → 0 < a → a + d < 1073741824 → ∃ y : List Int, y.length = x.length ∧ (∀ j : Nat, j < i → rd y j = rd x j) ∧ (∀ j : Nat, i ≤ j → j < x.length → rd y j = a + (j - i : Nat)) ∧ Ev (fun k => laws_markIntS.l0 k x a (i : Int)) (a + d, y) := by
 induction d with
|zero =>
  intro x a i hl hd hi h0 h1
  refine ⟨x, rfl, fun _ _ => rfl, fun j h2 h3 => by omega, ?_⟩
  refine Ev.step (f := fun _ => some (a, x)) (fun k => ?_) (by simpa using Ev.now (a, x))
  simp only [laws_markIntS.l0]
  rw [if_neg (by omega)]
|succ d ih =>
  intro x a i hl hd hi h0 h1
  have h : i < x.length := by omega
  obtain ⟨y, hy, hy1, hy2, hy3⟩ := ih (x.set i (a)) (a + 1) (i + 1) (by simpa using hl) (by simp;omega) (by simp;omega) (by omega) (by omega)
  refine ⟨y, by simpa using hy, fun j hj => ?_, fun j h2 h3 => ?_, ?_⟩
  ·rw [hy1 j (by omega), rd_nat _ j (by simp;omega), rd_nat _ j (by omega), List.getElem_set_ne (by omega)]
  ·by_cases e : i = j
   ·subst e
    rw [hy1 i (by omega), rd_nat _ i (by simp;omega), List.getElem_set_self]
    simp
   ·rw [hy2 j (by omega) (by simpa using h3)]
    have : a + 1 + ((j - (i + 1) : Nat) : Int) = a + ((j - i : Nat) : Int) := by omega
    rw [this]
  ·have e : a + ((d + 1 : Nat) : Int) = a + 1 + (d : Int) := by omega
   rw [e]
   refine Ev.step (f := fun k => laws_markIntS.l0 k (x.set i (a)) (a + 1) ((i + 1 : Nat) : Int)) (fun k => ?_) hy3
   simp only [laws_markIntS.l0]
   rw [if_pos (by omega), if_pos (by omega), wrap_id (x := a + 1) (by omega) (by omega), wrap_id (x := (i : Int) + 1) (by omega) (by omega), Int.toNat_natCast]
   rfl
theorem markIntS_ev (x : List Int) (a : Int) (hl : x.length ≤ 16777216) (h0 : 0 < a) (h1 : a + x.length < 1073741824) : ∃ y : List Int, y.length = x.length ∧ (∀ j : Nat, j < y.length → rd y j = a + (j : Nat)) ∧ Ev (fun k => laws_markIntS.f k x a) (a + (x.length : Int), y) := by
 obtain ⟨y, hy, _, hy2, hy3⟩ := markIntS_l0 x.length x a 0 hl (by omega) (by omega) h0 (by omega)
 exact ⟨y, hy, fun j hj => by simpa using hy2 j (by omega) (by omega), Ev.congr (f := fun k => laws_markIntS.l0 k x a ((0 : Nat) : Int)) (fun k => rfl) hy3⟩
inductive Marked : List (List Int) → Int → Int → Prop
 | nil (a : Int) : Marked [] a a
 | cons (y : List Int) (Y : List (List Int)) (a b : Int) (n : Nat) : y.length = n → n ≤ 16777216 → a + (n : Int) < 1073741824 → (∀ j : Nat, j < y.length → rd y j = a + (j : Nat)) → Marked Y (a + (n : Int)) b → Marked (y :: Y) a b
theorem markIntSS_ev : ∀ (X : List (List Int)) (a : Int), (∀ x ∈ X, x.length ≤ 16777216) → 0 < a → a + sumLen X < 1073741824 → ∃ Y, Y.length = X.length ∧ Marked Y a (a + sumLen X) ∧ Ev (fun k => laws_markIntSS.f k X a) (a + sumLen X, Y)
|[], a, _, _, _ => ⟨[], rfl, by simpa [sumLen] using Marked.nil a, by
  refine Ev.congr (f := fun _ => some (a + sumLen [], [])) (fun k => ?_) (Ev.now _)
  simp [laws_markIntSS.f, sumLen]⟩
|x :: X, a, hm, h0, h1 => by
  have hs : sumLen (x :: X) = x.length + sumLen X := by simp [sumLen]
  rw [hs] at h1 ⊢
  obtain ⟨y, hy, hy2, hy3⟩ := markIntS_ev x a (hm x (by simp)) h0 (by omega)
  obtain ⟨Y, hY, hY2, hY3⟩ := markIntSS_ev X (a + x.length) (fun z hz => hm z (by simp [hz])) (by omega) (by omega)
  have e : a + ((x.length + sumLen X : Nat) : Int) = a + (x.length : Int) + (sumLen X : Int) := by omega
  rw [e]
  refine ⟨y :: Y, by simp [hY], Marked.cons y Y a _ x.length hy (hm x (by simp)) (by omega) hy2 hY2, ?_⟩
  refine Ev.congr (f := fun k => (laws_markIntS.f k x a).bind fun p => (laws_markIntSS.f k X p.1).bind fun q => some (q.1, p.2 :: q.2)) (fun k => by simp only [laws_markIntSS.f]) ?_
  refine Ev.bind hy3 ?_
  refine Ev.bind hY3 ?_
  exact Ev.now _
theorem rdT_nat (x : List S26) (i : Nat) (h : i < x.length) : rd_T26 x (i : Int) = x[i] := by
 unfold rd_T26
 rw [Int.toNat_natCast, List.getD_eq_getElem?_getD, List.getElem?_eq_getElem h]
 rfl
theorem markRatioS_l0 (d : Nat) : ∀ (x : List S26) (a : Int) (i : Nat), x.length ≤ 16777216 → x.length - i = d → i ≤ x.length → 0 < a → a + 2 * d < 1073741824 → ∃ y : List S26, y.length = x.length ∧ (∀ j : Nat, j < i → rd_T26 y j = rd_T26 x j) ∧ (∀ j : Nat, i ≤ j → j < x.length → rd_T26 y j = ⟨a + 2 * (j - i : Nat), a + 2 * (j - i : Nat) + 1⟩) ∧ Ev (fun k => laws_markRatioS.l0 k x a (i : Int)) (a + 2 * d, y) := by
 induction d with
|zero =>
  intro x a i hl hd hi h0 h1
  refine ⟨x, rfl, fun _ _ => rfl, fun j h2 h3 => by omega, ?_⟩
  refine Ev.step (f := fun _ => some (a, x)) (fun k => ?_) (by simpa using Ev.now (a, x))
  simp only [laws_markRatioS.l0]
  rw [if_neg (by omega)]
|succ d ih =>
  intro x a i hl hd hi h0 h1
  have h : i < x.length := by omega
  obtain ⟨y, hy, hy1, hy2, hy3⟩ := ih (x.set i ⟨a, a + 1⟩) (a + 1 + 1) (i + 1) (by simpa using hl) (by simp;omega) (by simp;omega) (by omega) (by omega)
  refine ⟨y, by simpa using hy, fun j hj => ?_, fun j h2 h3 => ?_, ?_⟩
  ·rw [hy1 j (by omega), rdT_nat _ j (by simp;omega), rdT_nat _ j (by omega), List.getElem_set_ne (by omega)]
  ·by_cases e : i = j
   ·subst e
    rw [hy1 i (by omega), rdT_nat _ i (by simp;omega), List.getElem_set_self]
    simp
   ·rw [hy2 j (by omega) (by simpa using h3)]
    have : a + 1 + 1 + 2 * ((j - (i + 1) : Nat) : Int) = a + 2 * ((j - i : Nat) : Int) := by omega
    rw [this]
  ·have e : a + 2 * ((d + 1 : Nat) : Int) = a + 1 + 1 + 2 * (d : Int) := by omega
   rw [e]
   refine Ev.step (f := fun k => laws_markRatioS.l0 k (x.set i ⟨a, a + 1⟩) (a + 1 + 1) ((i + 1 : Nat) : Int)) (fun k => ?_) hy3
   simp only [laws_markRatioS.l0]
   rw [if_pos (by omega), if_pos (by omega)]
   simp only [Option.bind_some, Int.toNat_natCast]
   rw [rdT_nat (x.set i ⟨a, (rd_T26 x (i : Int)).f1⟩) i (by simpa using h), List.getElem_set_self, List.set_set, wrap_id (x := a + 1) (by omega) (by omega), wrap_id (x := a + 1 + 1) (by omega) (by omega), wrap_id (x := (i : Int) + 1) (by omega) (by omega)]
   rfl
theorem markRatioS_ev (x : List S26) (a : Int) (hl : x.length ≤ 16777216) (h0 : 0 < a) (h1 : a + 2 * x.length < 1073741824) : ∃ y : List S26, y.length = x.length ∧ (∀ j : Nat, j < y.length → rd_T26 y j = ⟨a + 2 * (j : Nat), a + 2 * (j : Nat) + 1⟩) ∧ Ev (fun k => laws_markRatioS.f k x a) (a + 2 * (x.length : Int), y) := by
 obtain ⟨y, hy, _, hy2, hy3⟩ := markRatioS_l0 x.length x a 0 hl (by omega) (by omega) h0 (by omega)
 exact ⟨y, hy, fun j hj => by simpa using hy2 j (by omega) (by omega), Ev.congr (f := fun k => laws_markRatioS.l0 k x a ((0 : Nat) : Int)) (fun k => rfl) hy3⟩
theorem heldRatioS_l0 (d : Nat) : ∀ (y : List S26) (a : Int) (i : Nat), y.length ≤ 16777216 → y.length - i = d → i ≤ y.length → 0 < a → a + 2 * d < 1073741824 → (∀ j : Nat, i ≤ j → j < y.length → rd_T26 y j = ⟨a + 2 * (j - i : Nat), a + 2 * (j - i : Nat) + 1⟩) → Ev (fun k => laws_heldRatioS.l0 k y a (i : Int)) (a + 2 * d) := by
 induction d with
|zero =>
  intro y a i hl hd hi h0 h1 hy
  refine Ev.step (f := fun _ => some a) (fun k => ?_) (by simpa using Ev.now a)
  simp only [laws_heldRatioS.l0]
  rw [if_neg (by omega)]
|succ d ih =>
  intro y a i hl hd hi h0 h1 hy
  have e : a + 2 * ((d + 1 : Nat) : Int) = a + 1 + 1 + 2 * (d : Int) := by omega
  rw [e]
  have hri := hy i (by omega) (by omega)
  simp only [Nat.sub_self, Int.natCast_zero, Int.mul_zero, Int.add_zero] at hri
  refine Ev.step (f := fun k => laws_heldRatioS.l0 k y (a + 1 + 1) ((i + 1 : Nat) : Int)) (fun k => ?_) (ih y (a + 1 + 1) (i + 1) hl (by omega) (by omega) (by omega) (by omega) fun j h2 h3 => ?_)
  ·simp only [laws_heldRatioS.l0]
   rw [if_pos (by omega), if_pos (by omega), hri, wrap_id (x := a + 1) (by omega) (by omega), wrap_id (x := a + 1 + 1) (by omega) (by omega), wrap_id (x := (i : Int) + 1) (by omega) (by omega)]
   simp only [if_true]
   rfl
  ·rw [hy j (by omega) h3]
   have : a + 1 + 1 + 2 * ((j - (i + 1) : Nat) : Int) = a + 2 * ((j - i : Nat) : Int) := by omega
   rw [this]
theorem heldRatioS_ev (y : List S26) (a : Int) (n : Nat) (hn : y.length = n) (hl : n ≤ 16777216) (h0 : 0 < a) (h1 : a + 2 * n < 1073741824) (hy : ∀ j : Nat, j < y.length → rd_T26 y j = ⟨a + 2 * (j : Nat), a + 2 * (j : Nat) + 1⟩) : Ev (fun k => laws_heldRatioS.f k y a) (a + 2 * (n : Int)) := by
 refine Ev.congr (f := fun k => laws_heldRatioS.l0 k y a ((0 : Nat) : Int)) (fun k => rfl) ?_
 exact heldRatioS_l0 n y a 0 (by omega) (by omega) (by omega) h0 h1 fun j _ hj => by simpa using hy j hj
theorem eqRatioS_l0 (l : List S26) (hl : l.length ≤ 16777216) (d : Nat) : ∀ (i : Nat), l.length - i = d → Ev (fun k => laws_eqRatioS.l0 k l l (i : Int)) true := by
 induction d with
|zero =>
  intro i hd
  refine Ev.step (f := fun _ => some true) (fun k => ?_) (Ev.now true)
  simp only [laws_eqRatioS.l0]
  rw [if_neg (by omega)]
|succ d ih =>
  intro i hd
  have h : i < l.length := by omega
  refine Ev.step (f := fun k => laws_eqRatioS.l0 k l l ((i + 1 : Nat) : Int)) (fun k => ?_) (ih (i + 1) (by omega))
  simp only [laws_eqRatioS.l0]
  rw [if_pos (by omega), if_pos (by omega), if_pos (by omega), wrap_id (by omega) (by omega)]
  simp only [laws_eqRatio.f, if_true, Option.bind_some]
  rfl
theorem eqRatioS_self (l : List S26) (hl : l.length ≤ 16777216) : Ev (fun k => laws_eqRatioS.f k l l) true := by
 refine Ev.congr (f := fun k => laws_eqRatioS.l0 k l l ((0 : Nat) : Int)) (fun k => ?_) (eqRatioS_l0 l hl l.length 0 (by omega))
 unfold laws_eqRatioS.f
 rw [if_pos rfl]
 rfl
theorem FnExactTwoSolutions : ∀ (m : List (List Int)) (v row : List Int), m.length ≤ maxLen → (∀ r ∈ m, r.length ≤ maxLen ∧ ∀ x ∈ r, (Lit.int .i64 x).wf = true) → v.length ≤ maxLen → (∀ x ∈ v, (Lit.int .i64 x).wf = true) → row.length ≤ maxLen → (∀ x ∈ row, (Lit.int .i64 x).wf = true) → ∃ k, laws_FnExactTwoSolutions.f k m v row = some true := by
 intro m v row hlm hw _ _ _ _
 have hm : ∀ r ∈ m, r.length ≤ maxLen := fun r hr => (hw r hr).1
 refine Ev.rounds ?_
 unfold laws_FnExactTwoSolutions.f
 by_cases c_v : (v.length : Int) > 1048576
 ·simp only [if_pos c_v];exact Ev.now true
 have b_v : v.length ≤ 1048576 := by omega
 by_cases c_row : (row.length : Int) > 1048576
 ·simp only [if_neg c_v, if_pos c_row];exact Ev.now true
 have b_row : row.length ≤ 1048576 := by omega
 simp only [if_neg c_v, if_neg c_row]
 obtain ⟨s, hs, hs'⟩ := szSS_ev m hlm hm
 refine Ev.bind hs ?_
 by_cases cs : s < 0
 ·simp only [if_pos cs];exact Ev.now true
 simp only [if_neg cs]
 have hsum := hs' (by omega)
 have b1 : m.length ≤ 1048576 := by omega
 have b2 : ∀ r ∈ m, r.length ≤ 1048576 := fun r hr => by have := len_le_sum m r hr;omega
 have b3 : ∀ r ∈ m, r.length ≤ 16777216 := fun r hr => by have := b2 r hr;omega
 obtain ⟨S, T, ok, hI, hS, hS1, hT1, _⟩ := two_both m v row (by omega) b3 (by omega) (by omega)
 obtain ⟨X, _, hX, hXe⟩ := markIntSS_ev m 1 b3 (by omega) (by omega)
 obtain ⟨Y, _, hY, hYe⟩ := markIntS_ev v (1 + (sumLen m : Int)) (by omega) (by omega) (by omega)
 obtain ⟨Z, _, hZ, hZe⟩ := markIntS_ev row (1 + (sumLen m : Int) + (v.length : Int)) (by omega) (by omega) (by omega)
 obtain ⟨G, hGl, hG, hGe⟩ := markRatioS_ev S 1 (by omega) (by omega) (by omega)
 have hH := heldRatioS_ev G 1 S.length (by omega) (by omega) (by omega) (by omega) hG
 obtain ⟨F, hFl, hF, hFe⟩ := markRatioS_ev T (1 + 2 * (S.length : Int)) (by omega) (by omega) (by omega)
 have hJ := heldRatioS_ev F (1 + 2 * (S.length : Int)) T.length (by omega) (by omega) (by omega) (by omega) hF
 have hE := eqRatioS_self S (by omega)
 have hE2 := eqRatioS_self T (by omega)
 have hT := toIntSS_ev m b1 b2
 have hV := toIntS_ev v b_v
 have hR := toIntS_ev row b_row
 refine Ev.bind hT ?_
 refine Ev.bind hV ?_
 refine Ev.bind hR ?_
 refine Ev.bind hS ?_
 dsimp only
 refine Ev.bind hT ?_
 refine Ev.bind hV ?_
 refine Ev.bind hR ?_
 refine Ev.bind hI ?_
 dsimp only
 refine Ev.bind hE ?_
 simp only [if_true]
 refine Ev.bind hE2 ?_
 simp only [if_true]
 refine Ev.bind hT ?_
 refine Ev.bind (eqIntSS_self m (by omega) b3) ?_
 simp only [if_true]
 refine Ev.bind hV ?_
 refine Ev.bind (eqIntS_self v (by omega)) ?_
 simp only [if_true]
 refine Ev.bind hR ?_
 refine Ev.bind (eqIntS_self row (by omega)) ?_
 simp only [if_true]
 refine Ev.bind hXe ?_
 dsimp only
 refine Ev.bind hYe ?_
 dsimp only
 refine Ev.bind hZe ?_
 dsimp only
 simp only [if_neg (show ¬ (1 : Int) + (sumLen m : Int) + (v.length : Int) + (row.length : Int) < 0 by omega)]
 refine Ev.bind hE ?_
 simp only [if_true]
 refine Ev.bind hE2 ?_
 simp only [if_true]
 refine Ev.bind hGe ?_
 dsimp only
 refine Ev.bind hFe ?_
 dsimp only
 refine Ev.bind hH ?_
 simp only [if_neg (show ¬ (1 : Int) + 2 * (S.length : Int) < 0 by omega)]
 refine Ev.bind hJ ?_
 simp only [if_neg (show ¬ (1 : Int) + 2 * (S.length : Int) + 2 * (T.length : Int) < 0 by omega), if_true]
 refine Ev.bind hT ?_
 refine Ev.bind hV ?_
 refine Ev.bind hR ?_
 refine Ev.bind hI ?_
 dsimp only
 refine Ev.bind hE ?_
 simp only [if_true]
 refine Ev.bind hE2 ?_
 simp only [if_true]
 refine Ev.bind hH ?_
 simp only [if_neg (show ¬ (1 : Int) + 2 * (S.length : Int) < 0 by omega)]
 refine Ev.bind hJ ?_
 simp only [if_neg (show ¬ (1 : Int) + 2 * (S.length : Int) + 2 * (T.length : Int) < 0 by omega), if_true]
 exact Ev.now true
end Go.Proofs.Ytojkepidkmkmpaa.Pure
end
section
set_option linter.unusedVariables false
namespace Go.Proofs.Ytojkepidkmkmpaa.Open
open Go.ChangeShapes Go.WideShapes Go.ChangeAt Go.RowKit Go.Deep Go.Proofs.YtojkepidkmkmpaaW.PrintWords
theorem open_SS {H : Type} {enc : TypeId × Value → H} {P : Program} {W : World} {base b0 : Nat} {held : Bool} {rch : Reach} {t e q : TypeId} (ht : P.underlying t = some (.slice e)) (he : P.underlying e = some (.slice q)) (hq : P.underlying q = some (.int .i64))
  (ce : P.cellsOf e = 1) (cq : P.cellsOf q = 1) {v : Value} {d : DataW H} {ps : List MemPlace} (hv : Value.okWide P W rch b0 t v) (h : DataW.Trod enc P W base (fun _ => true) held t v d ps) :
  ∃ (a : Option Addr) (c : Nat) (l : List (List Int)), v = .slice a l.length c ∧ l.length ≤ c ∧ l.length ≤ maxLen ∧ Kd.C (Kd.slice q (Kd.int .i64)) W a l.length l ∧ ∀ r ∈ l, r.length ≤ maxLen ∧ ∀ x ∈ r, (Lit.int .i64 x).wf = true := by
 obtain ⟨a0, len0, cap0, rfl⟩ := okWide_slice ht hv
 obtain ⟨fuel, hf⟩ := h
 rcases open_int_rows ht he hq ce cq hf with ⟨hcs, _⟩|⟨x, len, cap, A, L, C, Z, hcs, _, hl, hm, _, hcell⟩
 ·simp [Value.cells] at hcs
  obtain ⟨rfl, rfl, rfl⟩ := hcs
  exact ⟨none, 0, [], rfl, Nat.le_refl _, Nat.zero_le _, ⟨rfl, by simp, fun h => absurd h (by simp)⟩, by simp⟩
 ·simp [Value.cells] at hcs
  obtain ⟨rfl, rfl, rfl⟩ := hcs
  have hlen : ((List.range len0).map fun r => (Z r).take (L r)).length = len0 := by simp
  refine ⟨some x, cap0, (List.range len0).map fun r => (Z r).take (L r), by rw [hlen], by omega, by omega, ?_, ?_⟩
  ·refine ⟨rfl, by rw [hlen];unfold maxLen at hm;omega, fun _ => ⟨x, rfl, fun j p hj => ?_⟩⟩
   have hj' : j < len0 := by
    have := (List.getElem?_eq_some_iff.1 hj).1
    omega
   obtain ⟨h1, h2, h3, h4, h5, h6, h7⟩ := hcell j (by omega)
   have hp : p = (Z j).take (L j) := by
    rw [List.getElem?_map, List.getElem?_range hj'] at hj
    simpa using hj.symm
   have hpl : p.length = L j := by rw [hp, List.length_take];omega
   refine ⟨[.slice (A j) (L j) (C j)], rfl, ⟨A j, C j, by rw [hpl], by omega, ?_⟩, fun i u hu => ?_⟩
   ·refine Kd.C_of_reads (d := (0 : Int)) (h1 := fun _ => rfl) ⟨rfl, by rw [hpl];unfold maxLen at h3;omega, fun hn => ?_⟩
    cases hA : A j with
   |none => exact absurd (h6 hA) (by omega)
   |some a' =>
     refine ⟨a', rfl, fun i hi => ?_⟩
     rw [(h7 a' hA).2 i (by omega), hp]
     congr 2
     rw [List.getD_eq_getElem?_getD, List.getD_eq_getElem?_getD, List.getElem?_take, if_pos (by omega)]
   ·cases i with
   |zero =>
     simp at hu
     rw [← hu]
     show W.cell? (x.add (j * 1 + 0)) = _
     rw [Nat.mul_one]
     exact h1
   |succ i => simp at hu
  ·intro r hr
   obtain ⟨j, hj, rfl⟩ := List.mem_map.1 hr
   obtain ⟨h1, h2, h3, h4, h5, h6, h7⟩ := hcell j (by have := List.mem_range.1 hj;omega)
   exact ⟨by rw [List.length_take];omega, fun y hy => h5 y (List.mem_of_mem_take hy)⟩
end Go.Proofs.Ytojkepidkmkmpaa.Open
end
section
namespace Go.Proofs.Ytojkepidkmkmpaa.fnExactTwoSolutions
open Go.ChangeShapes Go.WideShapes Go.ChangeAt Go.RowKit Go.Proofs.YtojkepidkmkmpaaW.PrintWords
open Go.ChangeMaps (open_string shut_string)
set_option linter.unusedVariables false
theorem own : ownKnob Try.prog.godebug = none := by kernel_rfl
theorem laidOut : laidOutB Try.prog = true := by kernel_rfl
def IsRow (k : IntKind) (w : World) (a : Option Addr) (len cap : Nat) (zs : List Int) : Prop :=
 (a = none ∧ len = 0 ∧ cap = 0 ∧ zs = []) ∨
 ∃ x, a = some x ∧ len ≤ cap ∧ cap ≤ maxLen ∧ zs.length = cap ∧ (∀ i, i < zs.length → w.cell? (x.add i) = some (.int k (zs.getD i 0))) ∧ ∀ n ∈ zs, (Lit.int k n).wf = true
set_option maxRecDepth 100000 in
theorem lifted (os : Os) (started : os.Started) (H : Type) (enc : TypeId × Value → H) :
  ReturnsInHanded {} Try.checked os 5 .any (Rows.fnExactTwoSolutionsSpec.pre6 enc Try.prog Try.f5 Rows.fnExactTwoSolutionsRow.domain false) (Rows.fnExactTwoSolutionsSpec.post enc Try.prog Try.f5 false true false false) := by
 refine returnsInHanded_of_change_sized (C := Try.checked) own started (by kernel_rfl) Try.func5
  (ChangeSpec.witness6 (enc := enc) (C := Try.checked) false ⟨#[], #[.slice none 0 0, .slice none 0 0, .slice none 0 0], []⟩ 8 (by kernel_rfl) (by kernel_rfl) (by kernel_rfl) (by kernel_rfl)) ?_
 intro W base args ds gs before hval0 hW hcnd hsz0 _
 have hval : ∀ (j : Nat) t v, Try.f5.params[j]? = some t → args[j]? = some v → Value.okWide Try.prog W .any base t v := hval0
 have hW' := hW
 obtain ⟨p, q, hA0, hV, rfl, hfz, hnd⟩ := hW
 have hA : DataW.TrodAll enc Try.prog W 0 (fun _ => true) true Try.f5.params.toList args.toList ds p := hA0
 rw [Try.params5] at hA hval
 obtain ⟨v0, vs0, d0, ds0, p0, q0, hargs, rfl, rfl, h0, r0⟩ := trodAll_cons hA
 obtain ⟨v1, vs1, d1, ds1, p1, q1, rfl, rfl, rfl, h1, r1⟩ := trodAll_cons r0
 obtain ⟨v2, vs2, d2, ds2, p2, q2, rfl, rfl, rfl, h2, r2⟩ := trodAll_cons r1
 obtain ⟨rfl, rfl, rfl⟩ := trodAll_nil r2
 obtain rfl : args = #[v0, v1, v2] := by cases args;simp_all
 obtain ⟨rfl, rfl⟩ := trodVars_none hV
 have k0 := h0
 have lt0 : ∀ x ∈ p0, x.block < W.heap.size := by obtain ⟨m, hm⟩ := k0;exact DataW.trod_lt m _ _ _ hm
 obtain ⟨A0, c0, l0, rfl, hc0, hm0, hr0, hw0⟩ := Open.open_SS Try.underlying22 Try.underlying23 Try.underlying3 (by kernel_rfl) (by kernel_rfl) (hval 0 22 v0 rfl rfl) h0
 obtain ⟨A1, len1, c1, rfl⟩ := okWide_slice Try.underlying23 (hval 1 23 v1 rfl rfl)
 have k1 := h1
 have lt1 : ∀ x ∈ p1, x.block < W.heap.size := by obtain ⟨m, hm⟩ := k1;exact DataW.trod_lt m _ _ _ hm
 obtain ⟨z1, wz1⟩ : ∃ zs, IsRow .i64 W A1 len1 c1 zs := by
  obtain ⟨fuel, hf⟩ := h1
  rcases open_ints Try.underlying23 Try.underlying3 (by kernel_rfl) hf with ⟨hcs, _⟩|⟨x, l, c, zs, hcs, _, hl, hm, hz, _, hcell, hwz⟩
  ·simp [Value.cells] at hcs
   obtain ⟨rfl, rfl, rfl⟩ := hcs
   exact ⟨[], .inl ⟨rfl, rfl, rfl, rfl⟩⟩
  ·simp [Value.cells] at hcs
   obtain ⟨rfl, rfl, rfl⟩ := hcs
   exact ⟨zs, .inr ⟨_, rfl, hl, hm, by simpa using hz, hcell, hwz⟩⟩
 obtain ⟨l1, rfl, hr1, hm1, hw1, hc1⟩ := ReadsInt.ofRowC wz1
 obtain ⟨A2, len2, c2, rfl⟩ := okWide_slice Try.underlying23 (hval 2 23 v2 rfl rfl)
 have k2 := h2
 have lt2 : ∀ x ∈ p2, x.block < W.heap.size := by obtain ⟨m, hm⟩ := k2;exact DataW.trod_lt m _ _ _ hm
 obtain ⟨z2, wz2⟩ : ∃ zs, IsRow .i64 W A2 len2 c2 zs := by
  obtain ⟨fuel, hf⟩ := h2
  rcases open_ints Try.underlying23 Try.underlying3 (by kernel_rfl) hf with ⟨hcs, _⟩|⟨x, l, c, zs, hcs, _, hl, hm, hz, _, hcell, hwz⟩
  ·simp [Value.cells] at hcs
   obtain ⟨rfl, rfl, rfl⟩ := hcs
   exact ⟨[], .inl ⟨rfl, rfl, rfl, rfl⟩⟩
  ·simp [Value.cells] at hcs
   obtain ⟨rfl, rfl, rfl⟩ := hcs
   exact ⟨zs, .inr ⟨_, rfl, hl, hm, by simpa using hz, hcell, hwz⟩⟩
 obtain ⟨l2, rfl, hr2, hm2, hw2, hc2⟩ := ReadsInt.ofRowC wz2
 clear hA0 hval0 hsz0
 obtain ⟨k, h⟩ := Pure.FnExactTwoSolutions l0 l1 l2 hm0 hw0 hm1 hw1 hm2 hw2
 refine (PFnExactTwoSolutions.laws_FnExactTwoSolutions.calls k A0 c0 l0 A1 c1 l1 A2 c2 l2 true W hr0 hc0 (Kd.C_of_reads (d := (0 : Int)) (h1 := fun _ => rfl) hr1) hc1 (Kd.C_of_reads (d := (0 : Int)) (h1 := fun _ => rfl) hr2) hc2 h).mono fun e W' ⟨he, bel⟩ => ?_
 subst he
 exact ⟨_, rfl, _, _, _, [], _, [], hW', trodAll_mk1 (shut_bool Try.underlying4 _), (trodAll_cons_mk (Below.trod laidOut (by kernel_rfl) (of_decide_eq_true (by kernel_rfl)) k0 bel lt0) (trodAll_cons_mk (Below.trod laidOut (by kernel_rfl) (of_decide_eq_true (by kernel_rfl)) k1 bel lt1) (trodAll_cons_mk (Below.trod laidOut (by kernel_rfl) (of_decide_eq_true (by kernel_rfl)) k2 bel lt2) trodAll_mk0))), rfl, bel.frame _, fun h => by cases h⟩
theorem over : Rows.fnExactTwoSolutionsRow.holds Try.pinned (OpenSpec.ofChange Rows.fnExactTwoSolutionsSpec) :=
 OpenClaim.holds_of_wide 5 Try.f5 rfl rfl rfl rfl rfl rfl rfl ⟨rfl, rfl, rfl, rfl, rfl⟩ rfl rfl rfl rfl rfl (by kernel_rfl) Try.func5 (by kernel_rfl)
  (of_decide_eq_true (by kernel_rfl)) (by unfold Func.isWrapper; first | (rw [if_pos (by decide +kernel)]; kernel_rfl) | (rw [if_neg (by decide +kernel)]; exact ⟨rfl, rfl⟩))
  (fun os started H enc _ => lifted os started H enc)
theorem proved : Rows.FnExactTwoSolutionsSaid := over
#print axioms proved
end Go.Proofs.Ytojkepidkmkmpaa.fnExactTwoSolutions
namespace Go.Proofs.Ytojkepidkmkmpaa
theorem fnExactTwoSolutions_holds : Rows.FnExactTwoSolutionsSaid := fnExactTwoSolutions.proved
end Go.Proofs.Ytojkepidkmkmpaa
end
