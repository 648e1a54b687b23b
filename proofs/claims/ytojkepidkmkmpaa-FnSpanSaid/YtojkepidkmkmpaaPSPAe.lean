/-
  Goes on where the text before it ends.
  Conditions: none beside the given statement's own.
-/
import Derived.Test.YtojkepidkmkmpaaRows
import Derived.WalkKit
import Derived.ProofKit
import Derived.OpenShut
import Derived.ShutString
import Derived.ChangeOld
import Derived.Below
import Derived.SizedLaws
import Derived.Test.YtojkepidkmkmpaaPSPAd
set_option linter.unusedVariables false
set_option linter.unusedSimpArgs false
section
set_option linter.unusedSimpArgs false
set_option linter.unusedVariables false
namespace Go.Proofs.Ytojkepidkmkmpaa.Pure
open Go.RowKit Go.Proofs.Ytojkepidkmkmpaa.PFnSpan Go.Proofs.YtojkepidkmkmpaaW.PrintWords Go.Proofs.YtojkepidkmkmpaaW.PrintLast Go.Proofs.YtojkepidkmkmpaaW.PrintMore Go.Proofs.YtojkepidkmkmpaaAlg
theorem wrap_id {x : Int} (h1 : -9223372036854775808 ≤ x) (h2 : x < 9223372036854775808) : wrap64 x = x := by unfold wrap64; omega
theorem rd_nat (l : List Int) (i : Nat) (h : i < l.length) : rd l (i : Int) = l[i] := by
 unfold rd; rw [Int.toNat_natCast, List.getD_eq_getElem?_getD, List.getElem?_eq_getElem h]; rfl
theorem drop_eq_cons (l : List Int) (i : Nat) (h : i < l.length) : l.drop i = l[i] :: l.drop (i + 1) := List.drop_eq_getElem_cons h
theorem l1In_eq (a b c : Int) : spec_l1In.f a b c = some (decide (b ≤ a ∧ a ≤ c)) := by
 unfold spec_l1In.f
 by_cases h : a ≥ b
 ·rw [if_pos h]; congr 1; by_cases h2 : a ≤ c <;> simp [h2] <;> omega
 ·rw [if_neg h]; congr 1; simp; omega
theorem InRange_eq (a b c : Int) : impl_InRange.f a b c = some (decide (b ≤ a ∧ a ≤ c)) := by
 unfold impl_InRange.f
 by_cases h : b ≤ a
 ·rw [if_pos h]; congr 1; by_cases h2 : a ≤ c <;> simp [h2] <;> omega
 ·rw [if_neg h]; congr 1; simp; omega
theorem rdL_nat (l : List (List Int)) (i : Nat) (h : i < l.length) : rd_L1 l (i : Int) = l[i] := by
 unfold rd_L1
 rw [Int.toNat_natCast, List.getD_eq_getElem?_getD, List.getElem?_eq_getElem h]; rfl
theorem drop_consL (l : List (List Int)) (i : Nat) (h : i < l.length) : l.drop i = l[i] :: l.drop (i + 1) := List.drop_eq_getElem_cons h
def rowOk (c : Int) (r : List Int) : Bool := decide ((r.length : Int) = c) && r.all fun x => decide (-2 ≤ x ∧ x ≤ 2)
def isMat (l : List (List Int)) (c : Int) : Bool := decide (1 ≤ c ∧ c ≤ 6) && decide (l.length ≤ 12) && l.all (rowOk c)
theorem allIn_l0 (l : List Int) (hl : l.length ≤ 16777216) (a b : Int) (d : Nat) : ∀ (i : Nat), l.length - i = d → Ev (fun k => impl_allIn.l0 k a b l (l.length : Int) (i : Int)) ((l.drop i).all fun x => decide (a ≤ x ∧ x ≤ b)) := by
 induction d with
|zero =>
  intro i hd
  rw [List.drop_eq_nil_of_le (by omega)]
  refine Ev.step (f := fun _ => some true) (fun k => ?_) (Ev.now true)
  simp only [impl_allIn.l0]
  rw [if_neg (by omega)]
|succ d ih =>
  intro i hd
  have h : i < l.length := by omega
  rw [drop_eq_cons l i h, List.all_cons]
  by_cases c : a ≤ l[i] ∧ l[i] ≤ b
  ·rw [decide_eq_true c, Bool.true_and]
   refine Ev.step (f := fun k => impl_allIn.l0 k a b l (l.length : Int) ((i + 1 : Nat) : Int)) (fun k => ?_) (ih (i + 1) (by omega))
   simp only [impl_allIn.l0]
   rw [if_pos (by omega), if_pos (by omega), if_pos (by omega), rd_nat l i h, InRange_eq, decide_eq_true c]
   simp only [Option.bind_some, if_true]
   rw [wrap_id (by omega) (by omega)]
   rfl
  ·rw [decide_eq_false c, Bool.false_and]
   refine Ev.step (f := fun _ => some false) (fun k => ?_) (Ev.now false)
   simp only [impl_allIn.l0]
   rw [if_pos (by omega), if_pos (by omega), if_pos (by omega), rd_nat l i h, InRange_eq, decide_eq_false c]
   simp only [Option.bind_some, Bool.false_eq_true, if_false]
theorem allIn_ev (l : List Int) (hl : l.length ≤ 16777216) (a b : Int) : Ev (fun k => impl_allIn.f k l a b) (l.all fun x => decide (a ≤ x ∧ x ≤ b)) := by
 have := allIn_l0 l hl a b l.length 0 (by omega)
 exact this
theorem implMat_l0 (l : List (List Int)) (hl : l.length ≤ 16777216) (hm : ∀ r ∈ l, r.length ≤ 16777216) (c : Int) (d : Nat) : ∀ (i : Nat), l.length - i = d → Ev (fun k => impl_IsMatrix.l0 k c l (l.length : Int) (i : Int)) ((l.drop i).all (rowOk c)) := by
 induction d with
|zero =>
  intro i hd
  rw [List.drop_eq_nil_of_le (by omega)]
  refine Ev.step (f := fun _ => some true) (fun k => ?_) (Ev.now true)
  simp only [impl_IsMatrix.l0]
  rw [if_neg (by omega)]
|succ d ih =>
  intro i hd
  have h : i < l.length := by omega
  rw [drop_consL l i h, List.all_cons]
  by_cases c1 : (l[i].length : Int) = c
  ·have e : rowOk c l[i] = l[i].all fun x => decide (-2 ≤ x ∧ x ≤ 2) := by unfold rowOk;rw [decide_eq_true c1, Bool.true_and]
   rw [e]
   refine Ev.step (f := fun k => (impl_allIn.f k l[i] (-2) 2).bind fun t => if t = true then impl_IsMatrix.l0 k c l (l.length : Int) ((i + 1 : Nat) : Int) else some false) (fun k => ?_) (Ev.bind (allIn_ev l[i] (hm _ (List.getElem_mem h)) (-2) 2) ?_)
   ·simp only [impl_IsMatrix.l0]
    rw [if_pos (by omega), if_pos (by omega), if_pos (by omega), rdL_nat l i h, if_pos c1, wrap_id (by omega) (by omega)]
    rfl
   ·cases l[i].all fun x => decide (-2 ≤ x ∧ x ≤ 2) with
   |true => simp only [if_true, Bool.true_and];exact ih (i + 1) (by omega)
   |false => simp only [Bool.false_eq_true, if_false, Bool.false_and];exact Ev.now _
  ·have e : rowOk c l[i] = false := by unfold rowOk;rw [decide_eq_false c1, Bool.false_and]
   rw [e, Bool.false_and]
   refine Ev.step (f := fun _ => some false) (fun k => ?_) (Ev.now false)
   simp only [impl_IsMatrix.l0]
   rw [if_pos (by omega), if_pos (by omega), if_pos (by omega), rdL_nat l i h, if_neg c1]
theorem implMat_ev (l : List (List Int)) (hl : l.length ≤ 16777216) (hm : ∀ r ∈ l, r.length ≤ 16777216) (c : Int) : Ev (fun k => impl_IsMatrix.f k l c) (isMat l c) := by
 unfold impl_IsMatrix.f isMat
 simp only [InRange_eq, Option.bind_some]
 by_cases c1 : 1 ≤ c ∧ c ≤ 6
 ·simp only [decide_eq_true c1, if_true, Bool.true_and]
  by_cases c2 : l.length ≤ 12
  ·rw [decide_eq_true c2, Bool.true_and, decide_eq_false (show ¬ ((l.length : Int) > 12) by omega)]
   refine Ev.step (fun k => impl_IsMatrix.j0.eq_2 _ _ _ _) ?_
   simp only [Bool.false_eq_true, if_false]
   exact implMat_l0 l hl hm c l.length 0 (by omega)
  ·rw [decide_eq_false c2, Bool.false_and, decide_eq_true (show (l.length : Int) > 12 by omega)]
   refine Ev.step (fun k => impl_IsMatrix.j0.eq_2 _ _ _ _) ?_
   simp only [if_true]
   exact Ev.now _
 ·simp only [decide_eq_false c1, Bool.false_eq_true, if_false, Bool.false_and]
  refine Ev.step (fun k => impl_IsMatrix.j0.eq_2 _ _ _ _) ?_
  simp only [if_true]
  exact Ev.now _
theorem specMat_l1 (l : List (List Int)) (hl : l.length ≤ 16777216) (c : Int) (i : Nat) (h : i < l.length) (hc : (l[i].length : Int) = c) (hr : l[i].length ≤ 16777216) (R : Bool) (hR : Ev (fun k => spec_IsMatrix.l0 k l c ((i + 1 : Nat) : Int)) R) (d : Nat) : ∀ j : Nat, l[i].length - j = d → Ev (fun k => spec_IsMatrix.l1 k l c (i : Int) (j : Int)) (((l[i].drop j).all fun x => decide (-2 ≤ x ∧ x ≤ 2)) && R) := by
 induction d with
|zero =>
  intro j hd
  rw [List.drop_eq_nil_of_le (by omega)]
  refine Ev.step (f := fun k => spec_IsMatrix.l0 k l c ((i + 1 : Nat) : Int)) (fun k => ?_) (by simpa using hR)
  simp only [spec_IsMatrix.l1]
  rw [if_neg (by omega), wrap_id (by omega) (by omega)]
  rfl
|succ d ih =>
  intro j hd
  have hj : j < l[i].length := by omega
  rw [drop_eq_cons l[i] j hj, List.all_cons]
  by_cases c1 : -2 ≤ l[i][j] ∧ l[i][j] ≤ 2
  ·rw [decide_eq_true c1, Bool.true_and]
   refine Ev.step (f := fun k => spec_IsMatrix.l1 k l c (i : Int) ((j + 1 : Nat) : Int)) (fun k => ?_) (ih (j + 1) (by omega))
   simp only [spec_IsMatrix.l1]
   rw [if_pos (by omega), if_pos (by omega), if_pos (by omega), if_pos (by omega), rdL_nat l i h, if_pos (by omega), rd_nat _ j hj, l1In_eq, decide_eq_true c1]
   simp only [Option.bind_some, if_true]
   rw [wrap_id (by omega) (by omega)]
   rfl
  ·rw [decide_eq_false c1, Bool.false_and, Bool.false_and]
   refine Ev.step (f := fun _ => some false) (fun k => ?_) (Ev.now false)
   simp only [spec_IsMatrix.l1]
   rw [if_pos (by omega), if_pos (by omega), if_pos (by omega), if_pos (by omega), rdL_nat l i h, if_pos (by omega), rd_nat _ j hj, l1In_eq, decide_eq_false c1]
   simp only [Option.bind_some, Bool.false_eq_true, if_false]
theorem specMat_l0 (l : List (List Int)) (hl : l.length ≤ 16777216) (hm : ∀ r ∈ l, r.length ≤ 16777216) (c : Int) (d : Nat) : ∀ (i : Nat), l.length - i = d → Ev (fun k => spec_IsMatrix.l0 k l c (i : Int)) ((l.drop i).all (rowOk c)) := by
 induction d with
|zero =>
  intro i hd
  rw [List.drop_eq_nil_of_le (by omega)]
  refine Ev.step (f := fun _ => some true) (fun k => ?_) (Ev.now true)
  simp only [spec_IsMatrix.l0]
  rw [if_neg (by omega)]
|succ d ih =>
  intro i hd
  have h : i < l.length := by omega
  rw [drop_consL l i h, List.all_cons]
  by_cases c1 : (l[i].length : Int) = c
  ·have e : rowOk c l[i] = l[i].all fun x => decide (-2 ≤ x ∧ x ≤ 2) := by unfold rowOk;rw [decide_eq_true c1, Bool.true_and]
   rw [e]
   refine Ev.step (f := fun k => spec_IsMatrix.l1 k l c (i : Int) ((0 : Nat) : Int)) (fun k => ?_) (specMat_l1 l hl c i h c1 (hm _ (List.getElem_mem h)) _ (ih (i + 1) (by omega)) l[i].length 0 (by omega))
   simp only [spec_IsMatrix.l0]
   rw [if_pos (by omega), if_pos (by omega), rdL_nat l i h, if_pos c1]
   rfl
  ·have e : rowOk c l[i] = false := by unfold rowOk;rw [decide_eq_false c1, Bool.false_and]
   rw [e, Bool.false_and]
   refine Ev.step (f := fun _ => some false) (fun k => ?_) (Ev.now false)
   simp only [spec_IsMatrix.l0]
   rw [if_pos (by omega), if_pos (by omega), rdL_nat l i h, if_neg c1]
theorem specMat_ev (l : List (List Int)) (hl : l.length ≤ 16777216) (hm : ∀ r ∈ l, r.length ≤ 16777216) (c : Int) : Ev (fun k => spec_IsMatrix.f k l c) (isMat l c) := by
 unfold spec_IsMatrix.f isMat
 simp only [l1In_eq, Option.bind_some]
 by_cases c1 : 1 ≤ c ∧ c ≤ 6
 ·simp only [decide_eq_true c1, if_true, Bool.true_and]
  by_cases c2 : l.length ≤ 12
  ·rw [decide_eq_true c2, Bool.true_and, decide_eq_false (show ¬ ((l.length : Int) > 12) by omega)]
   refine Ev.step (fun k => spec_IsMatrix.j0.eq_2 _ _ _ _) ?_
   simp only [Bool.false_eq_true, if_false]
   exact specMat_l0 l hl hm c l.length 0 (by omega)
  ·rw [decide_eq_false c2, Bool.false_and, decide_eq_true (show (l.length : Int) > 12 by omega)]
   refine Ev.step (fun k => spec_IsMatrix.j0.eq_2 _ _ _ _) ?_
   simp only [if_true]
   exact Ev.now _
 ·simp only [decide_eq_false c1, Bool.false_eq_true, if_false, Bool.false_and]
  refine Ev.step (fun k => spec_IsMatrix.j0.eq_2 _ _ _ _) ?_
  simp only [if_true]
  exact Ev.now _
theorem impl_gcd_l0 (b : Nat) : ∀ a : Nat, Ev (fun k => impl_gcd.l0 k (a : Int) (b : Int)) ((Nat.gcd a b : Nat) : Int) := by
 induction b using Nat.strongRecOn with
|ind b ih =>
  intro a
  by_cases h : b = 0
  ·subst h
   refine Ev.step (f := fun _ => some (a : Int)) (fun k => ?_) (by simpa using Ev.now (a : Int))
   simp only [impl_gcd.l0]
   rw [if_pos (by omega)]
  ·have hg : Nat.gcd a b = Nat.gcd b (a % b) := by rw [Nat.gcd_comm a b, Nat.gcd_rec b a, Nat.gcd_comm]
   rw [hg]
   refine Ev.step (f := fun k => impl_gcd.l0 k (b : Int) ((a % b : Nat) : Int)) (fun k => ?_) (ih (a % b) (Nat.mod_lt _ (by omega)) b)
   simp only [impl_gcd.l0]
   rw [if_neg (by omega), Int.tmod_eq_emod_of_nonneg (by omega)]
   rfl
theorem spec_l4Gcd_l0 (b : Nat) : ∀ a : Nat, Ev (fun k => spec_l4Gcd.l0 k (a : Int) (b : Int)) ((Nat.gcd a b : Nat) : Int) := by
 induction b using Nat.strongRecOn with
|ind b ih =>
  intro a
  by_cases h : b = 0
  ·subst h
   refine Ev.step (f := fun _ => some (a : Int)) (fun k => ?_) (by simpa using Ev.now (a : Int))
   simp only [spec_l4Gcd.l0]
   rw [if_neg (by omega)]
  ·have hg : Nat.gcd a b = Nat.gcd b (a % b) := by rw [Nat.gcd_comm a b, Nat.gcd_rec b a, Nat.gcd_comm]
   rw [hg]
   refine Ev.step (f := fun k => spec_l4Gcd.l0 k (b : Int) ((a % b : Nat) : Int)) (fun k => ?_) (ih (a % b) (Nat.mod_lt _ (by omega)) b)
   simp only [spec_l4Gcd.l0]
   rw [if_pos (by omega), if_neg (by omega), Int.tmod_eq_emod_of_nonneg (by omega)]
   rfl
theorem gcdI_ev (a b : Int) (ha : -9223372036854775808 < a) (ha' : a < 9223372036854775808) (hb : -9223372036854775808 < b) (hb' : b < 9223372036854775808) : Ev (fun k => impl_gcd.f k a b) ((Int.gcd a b : Nat) : Int) := by
 have h0 : Ev (fun k => impl_gcd.j0 k ((a.natAbs : Nat) : Int) b) ((Int.gcd a b : Nat) : Int) := by
  refine Ev.step (f := fun k => impl_gcd.j1 k ((a.natAbs : Nat) : Int) ((b.natAbs : Nat) : Int)) (fun k => ?_) (Ev.step (fun k => impl_gcd.j1.eq_2 _ _ _) (impl_gcd_l0 b.natAbs a.natAbs))
  simp only [impl_gcd.j0]
  by_cases h : b < 0
  ·rw [if_pos h, wrap_id (by omega) (by omega), show -b = ((b.natAbs : Nat) : Int) by omega]
  ·rw [if_neg h, show (b.natAbs : Int) = b by omega]
 unfold impl_gcd.f
 by_cases h : a < 0
 ·simp only [if_pos h]
  rw [wrap_id (by omega) (by omega), show -a = ((a.natAbs : Nat) : Int) by omega]
  exact h0
 ·simp only [if_neg h]
  rw [show (a.natAbs : Int) = a by omega] at h0
  exact h0
theorem absS (a : Int) (ha : -9223372036854775808 < a) (ha' : a < 9223372036854775808) : spec_Max.f a (wrap64 (-a)) = some ((a.natAbs : Nat) : Int) := by
 unfold spec_Max.f
 rw [wrap_id (by omega) (by omega)]
 by_cases h : -a > a
 ·rw [if_pos h]; congr 1; omega
 ·rw [if_neg h]; congr 1; omega
theorem gcdS_ev (a b : Int) (ha : -9223372036854775808 < a) (ha' : a < 9223372036854775808) (hb : -9223372036854775808 < b) (hb' : b < 9223372036854775808) : Ev (fun k => spec_l4Gcd.f k a b) ((Int.gcd a b : Nat) : Int) := by
 unfold spec_l4Gcd.f
 simp only [absS a ha ha', absS b hb hb', Option.bind_some]
 exact spec_l4Gcd_l0 b.natAbs a.natAbs
theorem ev_to {α : Type} {f : Nat → Option α} {a b : α} (h : Ev f a) (e : a = b) : Ev f b := e ▸ h
theorem at0_rd (l : List Int) (i : Nat) : rd l (i : Int) = at0 l i := by
 unfold rd at0
 rw [Int.toNat_natCast]
theorem idx96_l0 (l : List Int) (hl : l.length ≤ 16777216) (d : Nat) : ∀ i : Nat, l.length - i = d → i ≤ ld l → Ev (fun k => slices_IndexFunc_int_int_96.l0 k l (l.length : Int) (i : Int)) (if ld l < l.length then (ld l : Int) else -1) := by
 induction d with
|zero =>
  intro i hd hi
  have := ld_le l
  rw [if_neg (by omega)]
  refine Ev.step (f := fun _ => some (-1)) (fun k => ?_) (Ev.now _)
  simp only [slices_IndexFunc_int_int_96.l0]
  rw [if_neg (by omega)]
|succ d ih =>
  intro i hd hi
  have h : i < l.length := by omega
  by_cases e : at0 l i = 0
  ·have hne : i ≠ ld l := fun e2 => by
    subst e2
    exact ld_ne l h e
   refine Ev.step (f := fun k => slices_IndexFunc_int_int_96.l0 k l (l.length : Int) ((i + 1 : Nat) : Int)) (fun k => ?_) (ih (i + 1) (by omega) (by omega))
   simp only [slices_IndexFunc_int_int_96.l0]
   rw [if_pos (by omega), if_pos (by omega), if_pos (by omega), at0_rd, if_pos e, wrap_id (by omega) (by omega)]
   rfl
  ·have he : ld l = i := ld_eq l i (fun j hj => ld_low l j (by omega)) e
   rw [he, if_pos h]
   refine Ev.step (f := fun _ => some (i : Int)) (fun k => ?_) (Ev.now _)
   simp only [slices_IndexFunc_int_int_96.l0]
   rw [if_pos (by omega), if_pos (by omega), if_pos (by omega), at0_rd, if_neg e]
theorem leadI_ev (l : List Int) (hl : l.length ≤ 16777216) : Ev (fun k => impl_lead.f k l) (if ld l < l.length then (ld l : Int) else -1) := by
 unfold impl_lead.f
 refine Ev.bind (idx96_l0 l hl l.length 0 (by omega) (by omega)) (Ev.now _)
theorem leadS_l0 (l : List Int) (hl : l.length ≤ 16777216) (d : Nat) : ∀ i : Nat, l.length - i = d → i ≤ ld l → Ev (fun k => spec_l5Lead.l0 k l (i : Int)) (ld l : Int) := by
 induction d with
|zero =>
  intro i hd hi
  have := ld_le l
  rw [show ld l = l.length by omega]
  refine Ev.step (f := fun _ => some (l.length : Int)) (fun k => ?_) (Ev.now _)
  simp only [spec_l5Lead.l0]
  rw [if_neg (by omega)]
|succ d ih =>
  intro i hd hi
  have h : i < l.length := by omega
  by_cases e : at0 l i = 0
  ·have hne : i ≠ ld l := fun e2 => by
    subst e2
    exact ld_ne l h e
   refine Ev.step (f := fun k => spec_l5Lead.l0 k l ((i + 1 : Nat) : Int)) (fun k => ?_) (ih (i + 1) (by omega) (by omega))
   simp only [spec_l5Lead.l0]
   rw [if_pos (by omega), if_pos (by omega), at0_rd, if_pos e, wrap_id (by omega) (by omega)]
   rfl
  ·have he : ld l = i := ld_eq l i (fun j hj => ld_low l j (by omega)) e
   rw [he]
   refine Ev.step (f := fun _ => some (i : Int)) (fun k => ?_) (Ev.now _)
   simp only [spec_l5Lead.l0]
   rw [if_pos (by omega), if_pos (by omega), at0_rd, if_neg e]
theorem leadS_ev (l : List Int) (hl : l.length ≤ 16777216) : Ev (fun k => spec_l5Lead.f k l) (ld l : Int) := leadS_l0 l hl l.length 0 (by omega) (by omega)
theorem gcdl_lt (B : Nat) (hB : 0 < B) : ∀ l : List Int, (∀ x ∈ l, x.natAbs < B) → gcdl l < B
 | [], _ => by simpa [gcdl] using hB
 | x :: l, h => by
  rw [gcdl_cons]
  by_cases hx : x.natAbs = 0
  ·rw [hx, Nat.gcd_zero_left]
   exact gcdl_lt B hB l fun y hy => h y (by simp [hy])
  ·have := Nat.le_of_dvd (Nat.pos_of_ne_zero hx) (Nat.gcd_dvd_left x.natAbs (gcdl l))
   have := h x (by simp)
   omega
theorem gcdl_take (l : List Int) (i : Nat) (h : i < l.length) : gcdl (l.take (i + 1)) = Nat.gcd (gcdl (l.take i)) l[i].natAbs := by
 rw [List.take_succ_eq_append_getElem h]
 show List.foldl _ _ _ = _
 rw [List.foldl_append]
 rfl
theorem gcd_int (g : Nat) (x : Int) : Int.gcd (g : Int) x = Nat.gcd g x.natAbs := rfl
theorem mem_small {l : List Int} {B : Nat} (h : ∀ j, (at0 l j).natAbs < B) : ∀ x ∈ l, x.natAbs < B := fun x hx => by
 obtain ⟨i, hi, rfl⟩ := List.getElem_of_mem hx
 have := h i
 rwa [at0_lt hi] at this
def mixl {α : Type} (a b : List α) (i : Nat) : List α := b.take i ++ a.drop i
theorem mixl_zero {α : Type} (a b : List α) : mixl a b 0 = a := by simp [mixl]
theorem mixl_all {α : Type} (a b : List α) (i : Nat) (h : a.length = b.length) (hi : a.length ≤ i) : mixl a b i = b := by
 unfold mixl
 rw [List.drop_eq_nil_of_le hi, List.append_nil, List.take_of_length_le (by omega)]
theorem mixl_len {α : Type} (a b : List α) (i : Nat) (h : a.length = b.length) (hi : i ≤ a.length) : (mixl a b i).length = a.length := by
 simp only [mixl, List.length_append, List.length_take, List.length_drop]
 omega
theorem mixl_get {α : Type} (a b : List α) (i j : Nat) (h : a.length = b.length) : (mixl a b i)[j]? = if j < i then b[j]? else a[j]? := by
 unfold mixl
 by_cases hj : j < i
 ·rw [if_pos hj]
  by_cases h2 : j < b.length
  ·rw [List.getElem?_append_left (by rw [List.length_take]; omega), List.getElem?_take, if_pos hj]
  ·rw [List.getElem?_append_right (by rw [List.length_take]; omega), List.getElem?_eq_none (l := b) (by omega), List.getElem?_eq_none]
   rw [List.length_drop, List.length_take]
   omega
 ·rw [if_neg hj]
  by_cases h2 : j < b.length
  ·rw [List.getElem?_append_right (by rw [List.length_take]; omega), List.length_take, List.getElem?_drop]
   congr 1
   omega
  ·rw [List.getElem?_append_right (by rw [List.length_take]; omega), List.length_take, List.getElem?_drop, List.getElem?_eq_none (by omega), List.getElem?_eq_none (by omega)]
theorem mixl_set {α : Type} (a b : List α) (i : Nat) (x : α) (h : a.length = b.length) (hx : b[i]? = some x) : (mixl a b i).set i x = mixl a b (i + 1) := by
 have hi := (List.getElem?_eq_some_iff.1 hx).1
 apply List.ext_getElem?
 intro j
 rw [List.getElem?_set, mixl_len a b i h (by omega), mixl_get a b (i + 1) j h]
 by_cases e : i = j
 ·subst e
  rw [if_pos rfl, if_pos (by omega), if_pos (by omega), hx]
 ·rw [if_neg e, mixl_get a b i j h]
  by_cases hj : j < i
  ·rw [if_pos hj, if_pos (by omega)]
  ·rw [if_neg hj, if_neg (by omega)]
theorem mixl_same {α : Type} (a b : List α) (i : Nat) (h : a.length = b.length) (hx : b[i]? = a[i]?) : mixl a b i = mixl a b (i + 1) := by
 apply List.ext_getElem?
 intro j
 rw [mixl_get a b i j h, mixl_get a b (i + 1) j h]
 by_cases hj : j < i
 ·rw [if_pos hj, if_pos (by omega)]
 ·by_cases e : j = i
  ·subst e
   rw [if_neg hj, if_pos (by omega), hx]
  ·rw [if_neg hj, if_neg (by omega)]
def part (l : List Int) (i : Nat) : List Int := mixl l (tid l) i
theorem part_zero (l : List Int) : part l 0 = l := mixl_zero _ _
theorem part_all (l : List Int) : part l l.length = tid l := mixl_all _ _ _ (tid_len l).symm (Nat.le_refl _)
theorem part_len (l : List Int) (i : Nat) (h : i ≤ l.length) : (part l i).length = l.length := mixl_len _ _ _ (tid_len l).symm h
theorem mixl_at (a b : List Int) (i : Nat) (h : a.length = b.length) : at0 (mixl a b i) i = at0 a i := by
 unfold at0
 rw [List.getD_eq_getElem?_getD, List.getD_eq_getElem?_getD, mixl_get a b i i h, if_neg (by omega)]
theorem part_at (l : List Int) (i : Nat) (h : i < l.length) : at0 (part l i) i = at0 l i := mixl_at _ _ _ (tid_len l).symm
theorem part_succ (l : List Int) (i : Nat) (h : i < l.length) (x : Int) (hx : x = at0 (tid l) i) : (part l i).set i x = part l (i + 1) := by
 refine mixl_set _ _ _ _ (tid_len l).symm ?_
 have ht := tid_len l
 rw [hx, at0_lt (by omega), List.getElem?_eq_getElem (by omega)]
theorem div_step (l : List Int) (hg : gcdl l ≠ 0) (hs : ∀ j, (at0 l j).natAbs < 9223372036854775808) (i : Nat) : wrap64 (Int.tdiv (at0 l i) (sg l)) = at0 (tid l) i := by
 have h1 := tid_mul l hg i
 have h2 : Int.tdiv (at0 l i) (sg l) = at0 (tid l) i := by
  rw [← h1]
  exact Int.mul_tdiv_cancel_left _ (sg_ne l hg)
 rw [h2]
 have h3 := hs i
 have h5 : (at0 (tid l) i).natAbs ≤ (at0 l i).natAbs := by
  rw [← h1, Int.natAbs_mul]
  exact Nat.le_mul_of_pos_left _ (Int.natAbs_pos.2 (sg_ne l hg))
 exact wrap_id (by omega) (by omega)
theorem tidyI_l1 (l : List Int) (hl : l.length ≤ 16777216) (hg : gcdl l ≠ 0) (hs : ∀ j, (at0 l j).natAbs < 9223372036854775808) (d : Nat) : ∀ i : Nat, l.length - i = d → i ≤ l.length → Ev (fun k => impl_tidy.l1 k (part l i) (sg l) (l.length : Int) (i : Int)) (tid l) := by
 induction d with
|zero =>
  intro i hd hi
  refine Ev.step (f := fun _ => some (part l i)) (fun k => ?_) (ev_to (Ev.now (part l i)) (by rw [show i = l.length by omega, part_all]))
  simp only [impl_tidy.l1]
  rw [if_neg (by omega)]
|succ d ih =>
  intro i hd hi
  have h : i < l.length := by omega
  have hp := part_len l i (by omega)
  refine Ev.step (f := fun k => impl_tidy.l1 k (part l (i + 1)) (sg l) (l.length : Int) ((i + 1 : Nat) : Int)) (fun k => ?_) (ih (i + 1) (by omega) (by omega))
  simp only [impl_tidy.l1]
  rw [if_pos (by omega), if_pos (by omega), if_pos (by omega), if_neg (sg_ne l hg), at0_rd, part_at l i h, div_step l hg hs i, Int.toNat_natCast, part_succ l i h _ rfl, wrap_id (by omega) (by omega)]
  rfl
theorem tidyS_l1 (l : List Int) (hl : l.length ≤ 16777216) (hg : gcdl l ≠ 0) (hs : ∀ j, (at0 l j).natAbs < 9223372036854775808) (d : Nat) : ∀ i : Nat, l.length - i = d → i ≤ l.length → Ev (fun k => spec_l5Tidy.l1 k (sg l) (part l i) (i : Int)) (tid l) := by
 induction d with
|zero =>
  intro i hd hi
  have hp := part_len l i (by omega)
  refine Ev.step (f := fun _ => some (part l i)) (fun k => ?_) (ev_to (Ev.now (part l i)) (by rw [show i = l.length by omega, part_all]))
  simp only [spec_l5Tidy.l1]
  rw [if_neg (by omega)]
|succ d ih =>
  intro i hd hi
  have h : i < l.length := by omega
  have hp := part_len l i (by omega)
  refine Ev.step (f := fun k => spec_l5Tidy.l1 k (sg l) (part l (i + 1)) ((i + 1 : Nat) : Int)) (fun k => ?_) (ih (i + 1) (by omega) (by omega))
  simp only [spec_l5Tidy.l1]
  rw [if_pos (by omega), if_pos (by omega), if_neg (sg_ne l hg), at0_rd, part_at l i h, div_step l hg hs i, Int.toNat_natCast, part_succ l i h _ rfl, wrap_id (by omega) (by omega)]
  rfl
theorem sg_case (l : List Int) : sg l = if at0 l (ld l) < 0 then -(gcdl l : Int) else gcdl l := rfl
theorem tidyI_l0 (l : List Int) (hl : l.length ≤ 16777216) (hs : ∀ j, (at0 l j).natAbs < 9223372036854775808) (d : Nat) : ∀ i : Nat, l.length - i = d → i ≤ l.length → Ev (fun k => impl_tidy.l0 k l ((gcdl (l.take i) : Nat) : Int) l (l.length : Int) (i : Int)) (tid l) := by
 have hm := mem_small hs
 induction d with
|zero =>
  intro i hd hi
  rw [List.take_of_length_le (by omega)]
  have hgl := gcdl_lt _ (by decide) l hm
  by_cases hg : gcdl l = 0
  ·refine Ev.step (f := fun _ => some l) (fun k => ?_) (ev_to (Ev.now l) (by unfold tid;rw [if_pos hg]))
   simp only [impl_tidy.l0]
   rw [if_neg (by omega), if_pos (by omega)]
  ·have hld := ld_lt l hg
   have hlead := leadI_ev l hl
   rw [if_pos hld] at hlead
   have hl1 := tidyI_l1 l hl hg hs l.length 0 (by omega) (by omega)
   rw [part_zero] at hl1
   have hj : Ev (fun k => impl_tidy.j1 k l (sg l)) (tid l) := Ev.step (fun k => impl_tidy.j1.eq_2 _ _ _) hl1
   refine Ev.step (f := fun k => (impl_lead.f k l).bind fun t => if 0 ≤ t then (if t < (l.length : Int) then (if rd l t < 0 then impl_tidy.j1 k l (wrap64 (-((gcdl l : Nat) : Int))) else impl_tidy.j1 k l ((gcdl l : Nat) : Int)) else none) else none) (fun k => ?_) ?_
   ·simp only [impl_tidy.l0]
    rw [if_neg (by omega), if_neg (by omega)]
   ·refine Ev.bind hlead ?_
    simp only [if_pos (show (0 : Int) ≤ (ld l : Int) by omega), if_pos (show (ld l : Int) < (l.length : Int) by omega), at0_rd]
    have hc := sg_case l
    by_cases hn : at0 l (ld l) < 0
    ·simp only [if_pos hn] at hc ⊢
     rw [wrap_id (by omega) (by omega), ← hc]
     exact hj
    ·simp only [if_neg hn] at hc ⊢
     rw [← hc]
     exact hj
|succ d ih =>
  intro i hd hi
  have h : i < l.length := by omega
  have hgl := gcdl_lt 9223372036854775808 (by decide) (l.take i) fun x hx => hm x (List.mem_of_mem_take hx)
  have hsi := hs i
  have hgc := gcdI_ev ((gcdl (l.take i) : Nat) : Int) (at0 l i) (by omega) (by omega) (by omega) (by omega)
  rw [gcd_int, at0_lt h, ← gcdl_take l i h] at hgc
  refine Ev.step (f := fun k => (impl_gcd.f k ((gcdl (l.take i) : Nat) : Int) l[i]).bind fun t => impl_tidy.l0 k l t l (l.length : Int) ((i + 1 : Nat) : Int)) (fun k => ?_) (Ev.bind hgc (ih (i + 1) (by omega) (by omega)))
  simp only [impl_tidy.l0]
  rw [if_pos (by omega), if_pos (by omega), if_pos (by omega), at0_rd, at0_lt h, wrap_id (by omega) (by omega)]
  rfl
theorem tidyI_ev (l : List Int) (hl : l.length ≤ 16777216) (hs : ∀ j, (at0 l j).natAbs < 9223372036854775808) : Ev (fun k => impl_tidy.f k l) (tid l) := tidyI_l0 l hl hs l.length 0 (by omega) (by omega)
theorem tidyS_l0 (l : List Int) (hl : l.length ≤ 16777216) (hs : ∀ j, (at0 l j).natAbs < 9223372036854775808) (d : Nat) : ∀ i : Nat, l.length - i = d → i ≤ l.length → Ev (fun k => spec_l5Tidy.l0 k l ((gcdl (l.take i) : Nat) : Int) (i : Int)) (tid l) := by
 have hm := mem_small hs
 induction d with
|zero =>
  intro i hd hi
  rw [List.take_of_length_le (by omega)]
  have hgl := gcdl_lt _ (by decide) l hm
  have hlead := leadS_ev l hl
  have hlle := ld_le l
  refine Ev.step (f := fun k => (spec_l5Lead.f k l).bind fun t => if t = (l.length : Int) then some l else if 0 ≤ t then (if t < (l.length : Int) then (if rd l t < 0 then spec_l5Tidy.j1 k (wrap64 (-((gcdl l : Nat) : Int))) l else spec_l5Tidy.j1 k ((gcdl l : Nat) : Int) l) else none) else none) (fun k => ?_) ?_
  ·simp only [spec_l5Tidy.l0]
   rw [if_neg (by omega)]
   simp only [Option.bind_some, List.nil_append, List.length_nil, Nat.zero_add]
   rw [if_pos (by omega)]
  ·refine Ev.bind hlead ?_
   by_cases hg : gcdl l = 0
   ·have h0 := ld_zero l (gcdl_zero l hg)
    simp only [if_pos (show (ld l : Int) = (l.length : Int) by omega)]
    exact ev_to (Ev.now l) (by unfold tid;rw [if_pos hg])
   ·have hld := ld_lt l hg
    have hl1 := tidyS_l1 l hl hg hs l.length 0 (by omega) (by omega)
    rw [part_zero] at hl1
    have hj : Ev (fun k => spec_l5Tidy.j1 k (sg l) l) (tid l) := Ev.step (fun k => spec_l5Tidy.j1.eq_2 _ _ _) hl1
    simp only [if_neg (show ¬ (ld l : Int) = (l.length : Int) by omega), if_pos (show (0 : Int) ≤ (ld l : Int) by omega), if_pos (show (ld l : Int) < (l.length : Int) by omega), at0_rd]
    have hc := sg_case l
    by_cases hn : at0 l (ld l) < 0
    ·simp only [if_pos hn] at hc ⊢
     rw [wrap_id (by omega) (by omega), ← hc]
     exact hj
    ·simp only [if_neg hn] at hc ⊢
     rw [← hc]
     exact hj
|succ d ih =>
  intro i hd hi
  have h : i < l.length := by omega
  have hgl := gcdl_lt 9223372036854775808 (by decide) (l.take i) fun x hx => hm x (List.mem_of_mem_take hx)
  have hsi := hs i
  have hgc := gcdS_ev ((gcdl (l.take i) : Nat) : Int) (at0 l i) (by omega) (by omega) (by omega) (by omega)
  rw [gcd_int, at0_lt h, ← gcdl_take l i h] at hgc
  refine Ev.step (f := fun k => (spec_l4Gcd.f k ((gcdl (l.take i) : Nat) : Int) l[i]).bind fun t => spec_l5Tidy.l0 k l t ((i + 1 : Nat) : Int)) (fun k => ?_) (Ev.bind hgc (ih (i + 1) (by omega) (by omega)))
  simp only [spec_l5Tidy.l0]
  rw [if_pos (by omega), if_pos (by omega), at0_rd, at0_lt h, wrap_id (by omega) (by omega)]
  rfl
theorem tidyS_ev (l : List Int) (hl : l.length ≤ 16777216) (hs : ∀ j, (at0 l j).natAbs < 9223372036854775808) : Ev (fun k => spec_l5Tidy.f k l) (tid l) := tidyS_l0 l hl hs l.length 0 (by omega) (by omega)
theorem mapO_ev (f : Nat → List Int → Option (List Int)) (g : List Int → List Int) : ∀ l : List (List Int), (∀ x ∈ l, Ev (fun k => f k x) (g x)) → Ev (fun k => impl_reduceAny.mapO (f k) l) (l.map g)
|[], _ => Ev.now []
|x :: l, h => by
  refine Ev.congr (f := fun k => (f k x).bind fun y => (impl_reduceAny.mapO (f k) l).bind fun m => some (y :: m)) (fun k => rfl) ?_
  exact Ev.bind (h x (by simp)) (Ev.bind (mapO_ev f g l fun y hy => h y (by simp [hy])) (Ev.now _))
def Small (l : List Int) : Prop := ∀ j, (at0 l j).natAbs ≤ 322560000
theorem mul_small {a b : Int} (ha : a.natAbs ≤ 322560000) (hb : b.natAbs ≤ 322560000) : (a * b).natAbs ≤ 104044953600000000 := by
 rw [Int.natAbs_mul]
 exact Nat.mul_le_mul ha hb
theorem comb_step (x p : List Int) (c i : Nat) (h : x.length = p.length) (hx : Small x) (hp : Small p) : wrap64 (wrap64 (at0 x i * at0 p c) - wrap64 (at0 p i * at0 x c)) = at0 (comb x p c) i := by
 have h1 := mul_small (hx i) (hp c)
 have h2 := mul_small (hp i) (hx c)
 rw [wrap_id (x := at0 x i * at0 p c) (by omega) (by omega), wrap_id (x := at0 p i * at0 x c) (by omega) (by omega), wrap_id (by omega) (by omega), comb_at x p c h]
theorem comb_small (x p : List Int) (c : Nat) (h : x.length = p.length) (hx : Small x) (hp : Small p) (j : Nat) : (at0 (comb x p c) j).natAbs < 9223372036854775808 := by
 have h1 := mul_small (hx j) (hp c)
 have h2 := mul_small (hp j) (hx c)
 rw [comb_at x p c h]
 omega
theorem rowI_l0 (x p : List Int) (c : Nat) (h : x.length = p.length) (hl : x.length ≤ 16777216) (hc : c < x.length) (hx : Small x) (hp : Small p) (d : Nat) : ∀ i : Nat, x.length - i = d → i ≤ x.length → Ev (fun k => impl_reduceAny.l0 k (c : Int) p (mixl x (comb x p c) i) (at0 x c) (x.length : Int) (i : Int)) (tid (comb x p c)) := by
 have hcl := (comb_len x p c h).symm
 induction d with
|zero =>
  intro i hd hi
  rw [mixl_all _ _ _ hcl (by omega)]
  refine Ev.step (f := fun k => (impl_tidy.f k (comb x p c)).bind fun t => some t) (fun k => ?_) (Ev.bind (tidyI_ev _ (by omega) (comb_small x p c h hx hp)) (Ev.now _))
  simp only [impl_reduceAny.l0]
  rw [if_neg (by omega)]
|succ d ih =>
  intro i hd hi
  have hi2 : i < x.length := by omega
  have hm := mixl_len _ _ i hcl (by omega)
  refine Ev.step (f := fun k => impl_reduceAny.l0 k (c : Int) p (mixl x (comb x p c) (i + 1)) (at0 x c) (x.length : Int) ((i + 1 : Nat) : Int)) (fun k => ?_) (ih (i + 1) (by omega) (by omega))
  simp only [impl_reduceAny.l0]
  rw [if_pos (by omega), if_pos (by omega), if_pos (by omega), if_pos (by omega), if_pos (by omega), if_pos (by omega), at0_rd, at0_rd, at0_rd, mixl_at _ _ _ hcl, comb_step x p c i h hx hp, Int.toNat_natCast,
   mixl_set _ _ _ _ hcl (by rw [at0_lt (by omega), List.getElem?_eq_getElem (by omega)]), wrap_id (by omega) (by omega)]
  rfl
theorem rowI_ev (x p : List Int) (c : Nat) (h : x.length = p.length) (hl : x.length ≤ 16777216) (hc : c < x.length) (hx : Small x) (hp : Small p) : Ev (fun k => impl_reduceAny.row k (c : Int) p x) (clr c p x) := by
 unfold impl_reduceAny.row clr
 simp only [if_pos (show (0 : Int) ≤ (c : Int) by omega), if_pos (show (c : Int) < (x.length : Int) by omega), at0_rd]
 by_cases e : at0 x c = 0
 ·simp only [if_pos e]
  exact Ev.now x
 ·simp only [if_neg e]
  have := rowI_l0 x p c h hl hc hx hp x.length 0 (by omega) (by omega)
  rw [mixl_zero] at this
  exact this
theorem clearS_l0 (a p : List Int) (c : Nat) (h : a.length = p.length) (hl : a.length ≤ 16777216) (hc : c < a.length) (hx : Small a) (hp : Small p) (d : Nat) : ∀ i : Nat, a.length - i = d → i ≤ a.length → Ev (fun k => spec_l5Clear.l0 k a p (c : Int) ((comb a p c).take i) (i : Int)) (tid (comb a p c)) := by
 have hcl := comb_len a p c h
 induction d with
|zero =>
  intro i hd hi
  rw [List.take_of_length_le (by omega)]
  refine Ev.step (f := fun k => (spec_l5Tidy.f k (comb a p c)).bind fun t => some t) (fun k => ?_) (Ev.bind (tidyS_ev _ (by omega) (comb_small a p c h hx hp)) (Ev.now _))
  simp only [spec_l5Clear.l0]
  rw [if_neg (by omega)]
|succ d ih =>
  intro i hd hi
  have hi2 : i < (comb a p c).length := by omega
  refine Ev.step (f := fun k => spec_l5Clear.l0 k a p (c : Int) ((comb a p c).take (i + 1)) ((i + 1 : Nat) : Int)) (fun k => ?_) (ih (i + 1) (by omega) (by omega))
  simp only [spec_l5Clear.l0]
  rw [if_pos (by omega), if_pos (by omega), if_pos (by omega), if_pos (by omega), if_pos (by omega), if_pos (by omega), if_pos (by rw [List.length_take];omega), at0_rd, at0_rd, at0_rd, at0_rd, comb_step a p c i h hx hp, at0_lt hi2, ← List.take_succ_eq_append_getElem hi2, wrap_id (by omega) (by omega)]
  rfl
theorem clearS_ev (a p : List Int) (c : Nat) (h : a.length = p.length) (hl : a.length ≤ 16777216) (hc : c < a.length) (hx : Small a) (hp : Small p) : Ev (fun k => spec_l5Clear.f k a p (c : Int)) (tid (comb a p c)) :=
 clearS_l0 a p c h hl hc hx hp a.length 0 (by omega) (by omega)
def hit (c : Nat) (x : List Int) : Bool := decide (ld x = c ∧ c < x.length)
theorem idx106_l0 (X : List (List Int)) (c : Nat) (hl : X.length ≤ 16777216) (hr : ∀ x ∈ X, x.length ≤ 16777216) (d : Nat) : ∀ i : Nat, X.length - i = d → i ≤ X.length → (∀ j, j < i → ∀ x, X[j]? = some x → hit c x = false) →
  Ev (fun k => slices_IndexFunc_int_int_106.l0 k X (c : Int) (X.length : Int) (i : Int)) (if X.findIdx (hit c) < X.length then (X.findIdx (hit c) : Int) else -1) := by
 induction d with
|zero =>
  intro i hd hi hh
  have hn : ¬ X.findIdx (hit c) < X.length := fun h => by
   have h1 := List.findIdx_getElem (w := h)
   have h2 := hh _ (by omega) _ (List.getElem?_eq_getElem h)
   rw [h2] at h1
   cases h1
  rw [if_neg hn]
  refine Ev.step (f := fun _ => some (-1)) (fun k => ?_) (Ev.now _)
  simp only [slices_IndexFunc_int_int_106.l0]
  rw [if_neg (by omega)]
|succ d ih =>
  intro i hd hi hh
  have h : i < X.length := by omega
  have hlead := leadI_ev X[i] (hr _ (List.getElem_mem h))
  refine Ev.step (f := fun k => (impl_lead.f k X[i]).bind fun t => if t = (c : Int) then some (i : Int) else slices_IndexFunc_int_int_106.l0 k X (c : Int) (X.length : Int) ((i + 1 : Nat) : Int)) (fun k => ?_) (Ev.bind hlead ?_)
  ·simp only [slices_IndexFunc_int_int_106.l0]
   rw [if_pos (by omega), if_pos (by omega), if_pos (by omega), rdL_nat X i h, wrap_id (by omega) (by omega)]
   rfl
  ·by_cases e : hit c X[i] = true
   ·have e' : ld X[i] = c ∧ c < X[i].length := by simpa [hit] using e
    have hf : X.findIdx (hit c) = i := by
     refine (List.findIdx_eq h).2 ⟨e, fun j hj => ?_⟩
     exact hh j hj _ (List.getElem?_eq_getElem (by omega))
    rw [hf, if_pos h]
    simp only [if_pos (show ld X[i] < X[i].length by omega), if_pos (show (ld X[i] : Int) = (c : Int) by omega)]
    exact Ev.now _
   ·have e' : ¬ (ld X[i] = c ∧ c < X[i].length) := by simpa [hit] using e
    simp only [if_neg (show ¬ (if ld X[i] < X[i].length then (ld X[i] : Int) else -1) = (c : Int) by split <;> omega)]
    refine ih (i + 1) (by omega) (by omega) fun j hj x hx => ?_
    by_cases ej : j = i
    ·subst ej
     rw [List.getElem?_eq_getElem h] at hx
     cases hx
     simpa using e
    ·exact hh j (by omega) x hx
theorem idx106_ev (X : List (List Int)) (c : Nat) (hl : X.length ≤ 16777216) (hr : ∀ x ∈ X, x.length ≤ 16777216) : Ev (fun k => slices_IndexFunc_int_int_106.f k X (c : Int)) (if X.findIdx (hit c) < X.length then (X.findIdx (hit c) : Int) else -1) :=
 idx106_l0 X c hl hr X.length 0 (by omega) (by omega) fun j hj => by omega
theorem copy_l0 (l : List (List Int)) (hl : l.length ≤ 16777216) (hr : ∀ x ∈ l, x.length ≤ 16777216) (d : Nat) : ∀ i : Nat, l.length - i = d → i ≤ l.length → Ev (fun k => impl_copyRows.l0 k (l.take i) l (l.length : Int) (i : Int)) l := by
 induction d with
|zero =>
  intro i hd hi
  rw [List.take_of_length_le (by omega)]
  refine Ev.step (f := fun _ => some l) (fun k => ?_) (Ev.now _)
  simp only [impl_copyRows.l0]
  rw [if_neg (by omega)]
|succ d ih =>
  intro i hd hi
  have h : i < l.length := by omega
  have hc : slices_Clone_int_int_95.f l[i] = some l[i] := by
   have := hr _ (List.getElem_mem h)
   unfold slices_Clone_int_int_95.f
   simp only [Option.bind_some, List.length_nil, List.nil_append, Nat.zero_add]
   rw [if_pos (by omega)]
  refine Ev.step (f := fun k => impl_copyRows.l0 k (l.take (i + 1)) l (l.length : Int) ((i + 1 : Nat) : Int)) (fun k => ?_) (ih (i + 1) (by omega) (by omega))
  simp only [impl_copyRows.l0]
  rw [if_pos (by omega), if_pos (by omega), if_pos (by omega), rdL_nat l i h, hc]
  simp only [Option.bind_some]
  rw [if_pos (by rw [List.length_take];omega), ← List.take_succ_eq_append_getElem h, wrap_id (by omega) (by omega)]
  rfl
theorem copy_ev (l : List (List Int)) (hl : l.length ≤ 16777216) (hr : ∀ x ∈ l, x.length ≤ 16777216) : Ev (fun k => impl_copyRows.f k l) l := copy_l0 l hl hr l.length 0 (by omega) (by omega)
theorem findIdx_hit (Q : List (List Int)) (c : Nat) (h : Q.findIdx (hit c) < Q.length) : hit c Q[Q.findIdx (hit c)] = true := List.findIdx_getElem (w := h)
theorem implLp {S : V → Prop} {m0 n : Nat} (hb : ∀ o, S o → ∀ j, (o j).natAbs ≤ bnd m0 j) (hm0 : m0 ≤ 6) (hn : n ≤ m0 + 1) (d : Nat) : ∀ (c : Nat) (P : List (List Int × Nat)) (Q : List (List Int)), c + d = n → Red S c P Q → (∀ p ∈ P, p.1.length = n) → (∀ q ∈ Q, q.length = n) → Q.length ≤ 16777216 →
  ∃ P' Q', Red S n P' Q' ∧ (∀ p ∈ P', p.1.length = n) ∧ (∀ q ∈ Q', q.length = n) ∧ Ev (fun k => impl_reduceAny.lp k d c Q (P.map (·.1)).reverse) (P'.map (·.1)).reverse := by
 induction d with
|zero =>
  intro c P Q hcd hR hP hQ hl
  obtain rfl : n = c := by omega
  exact ⟨P, Q, hR, hP, hQ, Ev.now _⟩
|succ d ih =>
  intro c P Q hcd hR hP hQ hl
  have hidx := idx106_ev Q c hl fun q hq => by rw [hQ q hq];omega
  by_cases hf : Q.findIdx (hit c) < Q.length
  ·obtain ⟨i, hi⟩ : ∃ i, i = Q.findIdx (hit c) := ⟨_, rfl⟩
   have hh := findIdx_hit Q c hf
   simp only [← hi] at hidx hf hh
   obtain ⟨q, hq⟩ : ∃ q, q = Q[i] := ⟨_, rfl⟩
   rw [← hq] at hh
   have hqm : q ∈ Q := by rw [hq];exact List.getElem_mem hf
   have hh' : ld q = c ∧ c < q.length := by simpa [hit] using hh
   have hqc : at0 q c ≠ 0 := by
    have := ld_ne q (by omega)
    rwa [hh'.1] at this
   have hsQ : ∀ r ∈ Q, Small r := fun r hr j => hR.small_rest hb (by omega) hm0 r hr j
   have hsP : ∀ p ∈ P, Small p.1 := fun p hp j => by
    have := hR.small_piv' hb (by omega) hm0 p hp j
    omega
   have hst := hR.step (Q' := Q.eraseIdx i) hP hQ q hqc hqm (fun x hx => by
    by_cases e : x = q
    ·exact .inl e
    ·right
     obtain ⟨j, hj, rfl⟩ := List.getElem_of_mem hx
     have hji : j ≠ i := fun e2 => by
      subst e2
      exact e hq.symm
     rw [List.mem_iff_getElem?]
     by_cases hlt : j < i
     ·exact ⟨j, by rw [List.getElem?_eraseIdx, if_pos hlt, List.getElem?_eq_getElem hj]⟩
     ·refine ⟨j - 1, ?_⟩
      rw [List.getElem?_eraseIdx, if_neg (by omega), show j - 1 + 1 = j by omega, List.getElem?_eq_getElem hj]) (fun x hx => List.mem_of_mem_eraseIdx hx)
   obtain ⟨P', Q', hR', hP', hQ', hev⟩ := ih (c + 1) _ _ (by omega) hst (fun p hp => by
    rcases List.mem_cons.1 hp with h|h
    ·rw [h];exact hQ q hqm
    ·obtain ⟨p2, hp2, e⟩ := List.mem_map.1 h
     rw [← e]
     show (clr c q p2.1).length = n
     rw [clr_len c q p2.1 (by rw [hP p2 hp2, hQ q hqm]), hP p2 hp2]) (fun r hr => by
    obtain ⟨r2, hr2, e⟩ := List.mem_map.1 hr
    have := hQ r2 (List.mem_of_mem_eraseIdx hr2)
    rw [← e, clr_len c q r2 (by rw [this, hQ q hqm]), this]) (by rw [List.length_map, List.length_eraseIdx, if_pos hf];omega)
   refine ⟨P', Q', hR', hP', hQ', ?_⟩
   refine Ev.congr (f := fun k => (slices_IndexFunc_int_int_106.f k Q (c : Int)).bind fun i => if i < 0 then impl_reduceAny.lp k d (c + 1) Q (P.map (·.1)).reverse else if i < (Q.length : Int) then (impl_reduceAny.mapO (impl_reduceAny.row k (c : Int) (Q.getD i.toNat [])) (Q.eraseIdx i.toNat)).bind fun X' => (impl_reduceAny.mapO (impl_reduceAny.row k (c : Int) (Q.getD i.toNat [])) (P.map (·.1)).reverse).bind fun Y' => impl_reduceAny.lp k d (c + 1) X' (Y' ++ [Q.getD i.toNat []]) else none) (fun k => rfl) (Ev.bind hidx ?_)
   simp only [if_pos hf]
   simp only [if_neg (show ¬ (i : Int) < 0 by omega), if_pos (show (i : Int) < (Q.length : Int) by omega), Int.toNat_natCast]
   have hgd : Q.getD i [] = q := by rw [hq, List.getD_eq_getElem?_getD, List.getElem?_eq_getElem hf];rfl
   simp only [hgd]
   refine Ev.bind (mapO_ev (fun k => impl_reduceAny.row k (c : Int) q) (clr c q) _ fun x hx => ?_) ?_
   ·have hx2 := List.mem_of_mem_eraseIdx hx
    exact rowI_ev x q c (by rw [hQ x hx2, hQ q hqm]) (by rw [hQ x hx2];omega) (by rw [hQ x hx2];omega) (hsQ x hx2) (hsQ q hqm)
   ·refine Ev.bind (mapO_ev (fun k => impl_reduceAny.row k (c : Int) q) (clr c q) _ fun x hx => ?_) ?_
    ·obtain ⟨p, hp, e⟩ := List.mem_map.1 (List.mem_reverse.1 hx)
     subst e
     exact rowI_ev p.1 q c (by rw [hP p hp, hQ q hqm]) (by rw [hP p hp];omega) (by rw [hP p hp];omega) (hsP p hp) (hsQ q hqm)
    ·have e : (P.map (·.1)).reverse.map (clr c q) ++ [q] = (((q, c) :: P.map fun p => (clr c q p.1, p.2)).map (·.1)).reverse := by
      simp [List.map_reverse, List.map_map, Function.comp_def]
     rw [e]
     exact hev
  ·obtain ⟨P', Q', hR', hP', hQ', hev⟩ := ih (c + 1) P Q (by omega) (hR.skip fun q hq => by
    refine Classical.byContradiction fun hne => ?_
    have hld := ld_eq q c (fun j hj => hR.low q hq j hj) hne
    have hlt : c < q.length := by rw [hQ q hq];omega
    have hh : hit c q = true := by simp [hit, hld, hlt]
    exact hf (List.findIdx_lt_length_of_exists ⟨q, hq, hh⟩)) hP hQ hl
   refine ⟨P', Q', hR', hP', hQ', ?_⟩
   refine Ev.congr (f := fun k => (slices_IndexFunc_int_int_106.f k Q (c : Int)).bind fun i => if i < 0 then impl_reduceAny.lp k d (c + 1) Q (P.map (·.1)).reverse else if i < (Q.length : Int) then (impl_reduceAny.mapO (impl_reduceAny.row k (c : Int) (Q.getD i.toNat [])) (Q.eraseIdx i.toNat)).bind fun X' => (impl_reduceAny.mapO (impl_reduceAny.row k (c : Int) (Q.getD i.toNat [])) (P.map (·.1)).reverse).bind fun Y' => impl_reduceAny.lp k d (c + 1) X' (Y' ++ [Q.getD i.toNat []]) else none) (fun k => rfl) (Ev.bind hidx ?_)
   simp only [if_neg hf]
   simp only [if_pos (show (-1 : Int) < 0 by omega)]
   exact hev
structure Okm (m : List (List Int)) (m0 n : Nat) : Prop where
 pos : 1 ≤ n
 cols : n ≤ m0 + 1
 le6 : m0 ≤ 6
 rows : m.length ≤ 1000
 len : ∀ r ∈ m, r.length = n
 small : ∀ r ∈ m, ∀ j, (at0 r j).natAbs ≤ bnd m0 j
theorem Okm.start {m : List (List Int)} {m0 n : Nat} (h : Okm m m0 n) : (∀ o, RowSp m o → ∀ j, (o j).natAbs ≤ bnd m0 j) ∧ ∀ r ∈ m, ∀ j, (at0 r j).natAbs < 9223372036854775808 := by
 refine ⟨fun o ho j => ?_, fun r hr j => ?_⟩
 ·obtain ⟨r, hr, rfl⟩ := ho
  exact h.small r hr j
 ·have := h.small r hr j
  have := bnd_le m0 j
  omega
theorem implRed {m : List (List Int)} {m0 n : Nat} (h : Okm m m0 n) : ∃ P Q, Red (RowSp m) n P Q ∧ (∀ p ∈ P, p.1.length = n) ∧ (∀ q ∈ Q, q.length = n) ∧ Ev (fun k => impl_reduceAny.f k m (n : Int)) (P.map (·.1)).reverse := by
 have h1 := h.pos;have h2 := h.cols;have h3 := h.le6;have h4 := h.rows
 obtain ⟨P, Q, hR, hP, hQ, hev⟩ := implLp h.start.1 h.le6 h.cols n 0 [] (m.map tid) (by omega) (Red.start m) (by simp) (fun q hq => by
  obtain ⟨r, hr, rfl⟩ := List.mem_map.1 hq
  rw [tid_len, h.len r hr]) (by rw [List.length_map];omega)
 refine ⟨P, Q, hR, hP, hQ, ?_⟩
 unfold impl_reduceAny.f
 refine Ev.bind (copy_ev m (by omega) fun r hr => by rw [h.len r hr];omega) ?_
 simp only [if_pos (show 1 ≤ (n : Int) ∧ (n : Int) ≤ 1000000 ∧ m.length ≤ 1000000 ∧ (∀ x ∈ m, (x.length : Int) = (n : Int)) from ⟨by omega, by omega, by omega, fun x hx => by rw [h.len x hx]⟩)]
 refine Ev.bind (mapO_ev (fun k => impl_tidy.f k) tid m fun x hx => tidyI_ev x (by rw [h.len x hx];omega) (h.start.2 x hx)) ?_
 rw [Int.toNat_natCast]
 exact hev
def swp (Q : List (List Int)) (j : Nat) : List (List Int) := (Q.set j (Q.getD 0 [])).tail
theorem swp_set (L Q : List (List Int)) (j : Nat) (q : List Int) (h : j < Q.length) : ((L ++ Q).set (L.length + j) (Q.getD 0 [])).set L.length q = L ++ q :: swp Q j := by
 rw [List.set_append_right _ _ (by omega), Nat.add_sub_cancel_left, List.set_append_right _ _ (by omega), Nat.sub_self]
 congr 1
 unfold swp
 cases hQ : Q.set j (Q.getD 0 []) with
 | nil =>
  have := congrArg List.length hQ
  simp at this
  subst this
  simp at h
 | cons a l => simp
theorem swp_len (Q : List (List Int)) (j : Nat) (h : j < Q.length) : (swp Q j).length + 1 = Q.length := by
 unfold swp
 rw [List.length_tail, List.length_set]
 omega
theorem swp_get (Q : List (List Int)) (j i : Nat) : (swp Q j)[i]? = if j = i + 1 ∧ i + 1 < Q.length then some (Q.getD 0 []) else Q[i + 1]? := by
 unfold swp
 rw [List.getElem?_tail, List.getElem?_set]
 by_cases h1 : j = i + 1
 ·subst h1
  by_cases h2 : i + 1 < Q.length
  ·simp [h2]
  ·simp [h2]
 ·simp [h1]
theorem swp_sub (Q : List (List Int)) (j : Nat) (h : j < Q.length) : ∀ x ∈ swp Q j, x ∈ Q := fun x hx => by
 obtain ⟨i, hi⟩ := List.getElem?_of_mem hx
 rw [swp_get] at hi
 split at hi
 ·cases hi
  rw [List.getD_eq_getElem?_getD, List.getElem?_eq_getElem (by omega)]
  exact List.getElem_mem _
 ·exact List.mem_of_getElem? hi
theorem swp_all (Q : List (List Int)) (j : Nat) (h : j < Q.length) : ∀ x ∈ Q, x = Q[j] ∨ x ∈ swp Q j := fun x hx => by
 obtain ⟨i, hi, rfl⟩ := List.getElem_of_mem hx
 by_cases e : i = j
 ·subst e;exact .inl rfl
 ·right
  by_cases h0 : i = 0
  ·subst h0
   refine List.mem_of_getElem? (i := j - 1) ?_
   rw [swp_get, if_pos ⟨by omega, by omega⟩, List.getD_eq_getElem?_getD, List.getElem?_eq_getElem hi]
   rfl
  ·refine List.mem_of_getElem? (i := i - 1) ?_
   rw [swp_get, if_neg (by omega), show i - 1 + 1 = i by omega, List.getElem?_eq_getElem hi]
theorem specL3 {α : Nat → Option (List (List Int))} (R F : List (List Int)) (cols : Int) (at_ c n : Nat) (q : List Int) (r : List (List Int)) (hl : R.length = F.length) (hR : R.length ≤ 1000) (hat : at_ < R.length) (hq : R[at_]? = some q) (hqF : F[at_]? = some q) (hn : n ≤ 16777216) (hc : c < n)
  (hlen : ∀ x ∈ R, x.length = n) (hsm : ∀ x ∈ R, Small x) (hF : ∀ i x, i ≠ at_ → R[i]? = some x → F[i]? = some (clr c q x)) (hc2 : c ≤ 1000)
  (hend : Ev (fun k => spec_l5Reduce.l1 k cols F ((at_ + 1 : Nat) : Int) ((c + 1 : Nat) : Int)) r) (d : Nat) : ∀ i : Nat, R.length - i = d → i ≤ R.length → Ev (fun k => spec_l5Reduce.l3 k cols (mixl R F i) (at_ : Int) (c : Int) (i : Int)) r := by
 have hqm : q ∈ R := List.mem_of_getElem? hq
 induction d with
|zero =>
  intro i hd hi
  rw [mixl_all R F i hl (by omega)]
  refine Ev.step (f := fun k => spec_l5Reduce.l1 k cols F ((at_ + 1 : Nat) : Int) ((c + 1 : Nat) : Int)) (fun k => ?_) hend
  simp only [spec_l5Reduce.l3]
  rw [if_neg (by omega), wrap_id (by omega) (by omega), wrap_id (by omega) (by omega)]
  rfl
|succ d ih =>
  intro i hd hi
  have h : i < R.length := by omega
  have hml := mixl_len R F i hl (by omega)
  by_cases e : i = at_
  ·refine Ev.step (f := fun k => spec_l5Reduce.l3 k cols (mixl R F (i + 1)) (at_ : Int) (c : Int) ((i + 1 : Nat) : Int)) (fun k => ?_) (ih (i + 1) (by omega) (by omega))
   simp only [spec_l5Reduce.l3]
   rw [if_pos (by omega), if_pos (by omega), wrap_id (by omega) (by omega), mixl_same R F i hl (by rw [e, hq, hqF])]
   rfl
  ·have hx := List.getElem?_eq_getElem h
   have hxm : R[i] ∈ R := List.getElem_mem h
   have hgi : (mixl R F i)[i]? = some R[i] := by rw [mixl_get R F i i hl, if_neg (by omega), hx]
   have hga : (mixl R F i)[at_]? = some q := by
    rw [mixl_get R F i at_ hl]
    split
    ·exact hqF
    ·exact hq
   have hri : rd_L1 (mixl R F i) (i : Int) = R[i] := by
    rw [rdL_nat _ i (by omega)]
    exact (List.getElem?_eq_some_iff.1 hgi).2
   have hra : rd_L1 (mixl R F i) (at_ : Int) = q := by
    rw [rdL_nat _ at_ (by omega)]
    exact (List.getElem?_eq_some_iff.1 hga).2
   have hFi := hF i R[i] e hx
   have hlx := hlen _ hxm
   by_cases h0 : at0 R[i] c = 0
   ·have hsame : F[i]? = R[i]? := by rw [hFi, hx];unfold clr;rw [if_pos h0]
    refine Ev.step (f := fun k => spec_l5Reduce.l3 k cols (mixl R F (i + 1)) (at_ : Int) (c : Int) ((i + 1 : Nat) : Int)) (fun k => ?_) (ih (i + 1) (by omega) (by omega))
    simp only [spec_l5Reduce.l3]
    rw [if_pos (by omega), if_neg (by omega), if_pos (by omega), if_pos (by omega), hri, if_pos (by omega), at0_rd, if_pos h0, wrap_id (by omega) (by omega), mixl_same R F i hl hsame]
    rfl
   ·have hcl := clearS_ev R[i] q c (by rw [hlx, hlen q hqm]) (by omega) (by omega) (hsm _ hxm) (hsm q hqm)
    refine Ev.step (f := fun k => (spec_l5Clear.f k R[i] q (c : Int)).bind fun t => spec_l5Reduce.l3 k cols ((mixl R F i).set i t) (at_ : Int) (c : Int) ((i + 1 : Nat) : Int)) (fun k => ?_) (Ev.bind hcl ?_)
    ·simp only [spec_l5Reduce.l3]
     rw [if_pos (by omega), if_neg (by omega), if_pos (by omega), if_pos (by omega), hri, if_pos (by omega), at0_rd, if_neg h0, if_pos (by omega), if_pos (by omega), hra, wrap_id (by omega) (by omega), Int.toNat_natCast]
     rfl
    ·have hFi2 : F[i]? = some (tid (comb R[i] q c)) := by
      rw [hFi]
      unfold clr
      rw [if_neg h0]
     simp only [mixl_set R F i _ hl hFi2]
     exact ih (i + 1) (by omega) (by omega)
theorem specL2 (rows : List (List Int)) (cols : Int) (at_ c : Nat) (r : List (List Int)) (hR : rows.length ≤ 1000) (hlen : ∀ x ∈ rows, c < x.length) (hc2 : c ≤ 1000) (p : Nat) (hp : p ≤ rows.length) (hz : ∀ i x, at_ ≤ i → i < p → rows[i]? = some x → at0 x c = 0) (hnz : ∀ x, rows[p]? = some x → at0 x c ≠ 0)
  (hend : Ev (fun k => spec_l5Reduce.j3 k cols rows (at_ : Int) (c : Int) (p : Int)) r) (d : Nat) : ∀ i : Nat, p - i = d → at_ ≤ i → i ≤ p → Ev (fun k => spec_l5Reduce.l2 k cols rows (at_ : Int) (c : Int) (i : Int)) r := by
 induction d with
|zero =>
  intro i hd ha hi
  obtain rfl : p = i := by omega
  refine Ev.step (f := fun k => spec_l5Reduce.j3 k cols rows (at_ : Int) (c : Int) (p : Int)) (fun k => ?_) hend
  simp only [spec_l5Reduce.l2]
  by_cases h : p < rows.length
  ·have h1 := hnz _ (List.getElem?_eq_getElem h)
   have h2 := hlen _ (List.getElem_mem h)
   rw [if_pos (by omega), if_pos (by omega), if_pos (by omega), rdL_nat rows p h, if_pos (by omega), at0_rd, if_neg h1]
  ·rw [if_neg (by omega)]
|succ d ih =>
  intro i hd ha hi
  have h : i < rows.length := by omega
  have h1 := hz i _ ha (by omega) (List.getElem?_eq_getElem h)
  have h2 := hlen _ (List.getElem_mem h)
  refine Ev.step (f := fun k => spec_l5Reduce.l2 k cols rows (at_ : Int) (c : Int) ((i + 1 : Nat) : Int)) (fun k => ?_) (ih (i + 1) (by omega) (by omega) (by omega))
  simp only [spec_l5Reduce.l2]
  rw [if_pos (by omega), if_pos (by omega), if_pos (by omega), rdL_nat rows i h, if_pos (by omega), at0_rd, if_pos h1, wrap_id (by omega) (by omega)]
  rfl
theorem specL1 {S : V → Prop} {m0 n cols : Nat} (hb : ∀ o, S o → ∀ j, (o j).natAbs ≤ bnd m0 j) (hm0 : m0 ≤ 6) (hn : n ≤ 7) (hcm : cols ≤ m0) (hcn : cols ≤ n) (d : Nat) : ∀ (c : Nat) (P : List (List Int × Nat)) (Q : List (List Int)), c + d = cols → Red S c P Q → (∀ p ∈ P, p.1.length = n) → (∀ q ∈ Q, q.length = n) → P.length + Q.length ≤ 1000 →
  ∃ P' Q', Red S cols P' Q' ∧ (∀ p ∈ P', p.1.length = n) ∧ (∀ q ∈ Q', q.length = n) ∧ P'.length + Q'.length = P.length + Q.length ∧ Ev (fun k => spec_l5Reduce.l1 k (cols : Int) ((P.map (·.1)).reverse ++ Q) (P.length : Int) (c : Int)) ((P'.map (·.1)).reverse ++ Q') := by
 induction d with
|zero =>
  intro c P Q hcd hR hP hQ hl
  obtain rfl : cols = c := by omega
  refine ⟨P, Q, hR, hP, hQ, rfl, ?_⟩
  refine Ev.step (f := fun _ => some ((P.map (·.1)).reverse ++ Q)) (fun k => ?_) (Ev.now _)
  simp only [spec_l5Reduce.l1]
  rw [if_neg (by omega)]
|succ d ih =>
  intro c P Q hcd hR hP hQ hl
  obtain ⟨L, hL⟩ : ∃ L, L = (P.map (·.1)).reverse := ⟨_, rfl⟩
  have hLl : L.length = P.length := by rw [hL];simp
  have hLm : ∀ x ∈ L, ∃ p ∈ P, p.1 = x := fun x hx => by
   rw [hL] at hx
   obtain ⟨p, hp, e⟩ := List.mem_map.1 (List.mem_reverse.1 hx)
   exact ⟨p, hp, e⟩
  have hll : ∀ x ∈ L ++ Q, x.length = n := fun x hx => by
   rcases List.mem_append.1 hx with h|h
   ·obtain ⟨p, hp, rfl⟩ := hLm x h
    exact hP p hp
   ·exact hQ x h
  have hsm : ∀ x ∈ L ++ Q, Small x := fun x hx j => by
   rcases List.mem_append.1 hx with h|h
   ·obtain ⟨p, hp, rfl⟩ := hLm x h
    have := hR.small_piv' hb (by omega) hm0 p hp j
    omega
   ·exact hR.small_rest hb (by omega) hm0 x h j
  have hlen : (L ++ Q).length ≤ 1000 := by rw [List.length_append];omega
  obtain ⟨j, hj⟩ : ∃ j, j = Q.findIdx (fun x => decide (at0 x c ≠ 0)) := ⟨_, rfl⟩
  have hjle : j ≤ Q.length := by rw [hj];exact List.findIdx_le_length
  have hz : ∀ i x, i < j → Q[i]? = some x → at0 x c = 0 := fun i x hi hx => by
   have h1 := List.not_of_lt_findIdx (p := fun x => decide (at0 x c ≠ 0)) (xs := Q) (i := i) (by rw [← hj];exact hi)
   have h2 := (List.getElem?_eq_some_iff.1 hx).2
   rw [h2] at h1
   simpa using h1
  have hl2 : ∀ r, Ev (fun k => spec_l5Reduce.j3 k (cols : Int) (L ++ Q) (P.length : Int) (c : Int) ((P.length + j : Nat) : Int)) r → Ev (fun k => spec_l5Reduce.l1 k (cols : Int) (L ++ Q) (P.length : Int) (c : Int)) r := fun r hr => by
   refine Ev.step (f := fun k => spec_l5Reduce.l2 k (cols : Int) (L ++ Q) (P.length : Int) (c : Int) (P.length : Int)) (fun k => ?_) ?_
   ·simp only [spec_l5Reduce.l1]
    rw [if_pos (by omega)]
   ·refine specL2 (L ++ Q) cols P.length c r hlen (fun x hx => by rw [hll x hx];omega) (by omega) (P.length + j) (by rw [List.length_append];omega) (fun i x h1 h2 hx => ?_) (fun x hx => ?_) hr j P.length (by omega) (by omega) (by omega)
    ·rw [List.getElem?_append_right (by omega)] at hx
     exact hz _ x (by omega) hx
    ·rw [List.getElem?_append_right (by omega), hLl, Nat.add_sub_cancel_left] at hx
     have h1 := (List.getElem?_eq_some_iff.1 hx).1
     have h2 := List.findIdx_getElem (p := fun x => decide (at0 x c ≠ 0)) (xs := Q) (w := by rw [← hj];exact h1)
     have h3 := (List.getElem?_eq_some_iff.1 hx).2
     simp only [← hj, h3] at h2
     simpa using h2
  rw [← hL]
  by_cases hjl : j < Q.length
  ·obtain ⟨q, hq⟩ : ∃ q, q = Q[j] := ⟨_, rfl⟩
   have hqm : q ∈ Q := by rw [hq];exact List.getElem_mem hjl
   have hqc : at0 q c ≠ 0 := by
    have h2 := List.findIdx_getElem (p := fun x => decide (at0 x c ≠ 0)) (xs := Q) (w := by rw [← hj];exact hjl)
    simp only [← hj, ← hq] at h2
    simpa using h2
   have hqt : tid q = q := by
    rcases hR.tq q hqm with h|⟨h, k, h1, h2⟩
    ·exact absurd (h c) hqc
    ·exact tid_tidy q h k h1 h2
   have hst := hR.step (Q' := swp Q j) hP hQ q hqc hqm (by rw [hq];exact swp_all Q j hjl) (swp_sub Q j hjl)
   obtain ⟨P', Q', hR', hP', hQ', hl', hev⟩ := ih (c + 1) _ _ (by omega) hst (fun p hp => by
    rcases List.mem_cons.1 hp with h|h
    ·rw [h];exact hQ q hqm
    ·obtain ⟨p2, hp2, e⟩ := List.mem_map.1 h
     rw [← e]
     show (clr c q p2.1).length = n
     rw [clr_len c q p2.1 (by rw [hP p2 hp2, hQ q hqm]), hP p2 hp2]) (fun r hr => by
    obtain ⟨r2, hr2, e⟩ := List.mem_map.1 hr
    have := hQ r2 (swp_sub Q j hjl r2 hr2)
    rw [← e, clr_len c q r2 (by rw [this, hQ q hqm]), this]) (by
    have := swp_len Q j hjl
    simp only [List.length_cons, List.length_map]
    omega)
   refine ⟨P', Q', hR', hP', hQ', by
    have := swp_len Q j hjl
    simp only [List.length_cons, List.length_map] at hl'
    omega, hl2 _ ?_⟩
   have hrp : rd_L1 (L ++ Q) ((P.length + j : Nat) : Int) = q := by
    rw [rdL_nat _ _ (by rw [List.length_append];omega), List.getElem_append_right (by omega), hq]
    congr 1
    omega
   have hra : rd_L1 (L ++ Q) (P.length : Int) = Q.getD 0 [] := by
    rw [rdL_nat _ _ (by rw [List.length_append];omega), List.getElem_append_right (by omega), List.getD_eq_getElem?_getD, List.getElem?_eq_getElem (by omega)]
    show Q[_] = Q[0]
    congr 1
    omega
   have htd := tidyS_ev q (by rw [hQ q hqm];omega) (fun i => by have := hsm q (List.mem_append_right _ hqm) i;omega)
   rw [hqt] at htd
   refine Ev.step (f := fun k => (spec_l5Tidy.f k q).bind fun t => spec_l5Reduce.l3 k (cols : Int) (((L ++ Q).set (P.length + j) (Q.getD 0 [])).set P.length t) (P.length : Int) (c : Int) 0) (fun k => ?_) (Ev.bind htd ?_)
   ·simp only [spec_l5Reduce.j3]
    rw [if_neg (by rw [List.length_append];omega), if_pos (by omega), if_pos (by rw [List.length_append];omega), if_pos (by omega), if_pos (by rw [List.length_append];omega), hrp, hra, Int.toNat_natCast, Int.toNat_natCast]
   ·have hset := swp_set L Q j q hjl
    rw [hLl] at hset
    simp only [hset]
    have hFe : (((q, c) :: P.map fun p => (clr c q p.1, p.2)).map (·.1)).reverse ++ (swp Q j).map (clr c q) = L.map (clr c q) ++ q :: (swp Q j).map (clr c q) := by
     rw [hL]
     simp [List.map_reverse, List.map_map, Function.comp_def]
    rw [hFe] at hev
    have hall : ∀ x ∈ L ++ q :: swp Q j, x ∈ L ++ Q := fun x hx => by
     rcases List.mem_append.1 hx with h|h
     ·exact List.mem_append_left _ h
     ·rcases List.mem_cons.1 h with h|h
      ·rw [h];exact List.mem_append_right _ hqm
      ·exact List.mem_append_right _ (swp_sub Q j hjl x h)
    have hsl := swp_len Q j hjl
    have h3 := specL3 (α := fun _ => none) (L ++ q :: swp Q j) (L.map (clr c q) ++ q :: (swp Q j).map (clr c q)) cols P.length c n q _ (by simp) (by simp;omega) (by simp;omega) (by rw [List.getElem?_append_right (by omega), hLl, Nat.sub_self];rfl)
     (by rw [List.getElem?_append_right (by rw [List.length_map];omega), List.length_map, hLl, Nat.sub_self];rfl) (by omega) (by omega) (fun x hx => hll x (hall x hx)) (fun x hx => hsm x (hall x hx)) (fun i x hi hx => by
      rcases Nat.lt_or_ge i L.length with h|h
      ·rw [List.getElem?_append_left h] at hx
       rw [List.getElem?_append_left (by rw [List.length_map];exact h), List.getElem?_map, hx]
       rfl
      ·rw [List.getElem?_append_right h] at hx
       rw [List.getElem?_append_right (by rw [List.length_map];exact h), List.length_map]
       obtain ⟨e, he⟩ : ∃ e, i - L.length = e + 1 := ⟨i - L.length - 1, by omega⟩
       rw [he] at hx ⊢
       simp only [List.getElem?_cons_succ] at hx ⊢
       rw [List.getElem?_map, hx]
       rfl) (by omega) (by
      simp only [List.length_cons, List.length_map] at hev
      exact hev) _ 0 rfl (by omega)
    rw [mixl_zero] at h3
    exact h3
  ·obtain rfl : j = Q.length := by omega
   obtain ⟨P', Q', hR', hP', hQ', hl', hev⟩ := ih (c + 1) P Q (by omega) (hR.skip fun q hq => by
    obtain ⟨i, hi, rfl⟩ := List.getElem_of_mem hq
    exact hz i _ hi (List.getElem?_eq_getElem hi)) hP hQ hl
   rw [← hL] at hev
   refine ⟨P', Q', hR', hP', hQ', hl', hl2 _ ?_⟩
   refine Ev.step (f := fun k => spec_l5Reduce.l1 k (cols : Int) (L ++ Q) (P.length : Int) ((c + 1 : Nat) : Int)) (fun k => ?_) hev
   simp only [spec_l5Reduce.j3]
   rw [if_pos (by rw [List.length_append];omega), wrap_id (by omega) (by omega)]
   rfl
theorem specL0 (m : List (List Int)) (cols : Int) (r : List (List Int)) (hm : m.length ≤ 1000) (hl : ∀ x ∈ m, x.length ≤ 16777216) (hs : ∀ x ∈ m, ∀ j, (at0 x j).natAbs < 9223372036854775808)
  (hend : Ev (fun k => spec_l5Reduce.l1 k cols (m.map tid) 0 0) r) (d : Nat) : ∀ i : Nat, m.length - i = d → i ≤ m.length → Ev (fun k => spec_l5Reduce.l0 k m cols ((m.map tid).take i) (i : Int)) r := by
 induction d with
|zero =>
  intro i hd hi
  rw [List.take_of_length_le (by rw [List.length_map];omega)]
  refine Ev.step (f := fun k => spec_l5Reduce.l1 k cols (m.map tid) 0 0) (fun k => ?_) hend
  simp only [spec_l5Reduce.l0]
  rw [if_neg (by omega)]
|succ d ih =>
  intro i hd hi
  have h : i < m.length := by omega
  have htd := tidyS_ev m[i] (hl _ (List.getElem_mem h)) (hs _ (List.getElem_mem h))
  refine Ev.step (f := fun k => (spec_l5Tidy.f k m[i]).bind fun t => spec_l5Reduce.l0 k m cols ((m.map tid).take i ++ [t]) ((i + 1 : Nat) : Int)) (fun k => ?_) (Ev.bind htd ?_)
  ·simp only [spec_l5Reduce.l0]
   have h5 : ((m.map tid).take i).length < 5864062014805 := by rw [List.length_take];omega
   rw [if_pos (by omega), if_pos (by omega), rdL_nat m i h, wrap_id (by omega) (by omega)]
   simp only [if_pos h5]
   rfl
  ·have e : (m.map tid).take i ++ [tid m[i]] = (m.map tid).take (i + 1) := by
    rw [List.take_succ_eq_append_getElem (by rw [List.length_map];exact h), List.getElem_map]
   simp only [e]
   exact ih (i + 1) (by omega) (by omega)
theorem specRed {m : List (List Int)} {m0 n cols : Nat} (h : Okm m m0 n) (hc : cols ≤ m0) (hcn : cols ≤ n) : ∃ P Q, Red (RowSp m) cols P Q ∧ (∀ p ∈ P, p.1.length = n) ∧ (∀ q ∈ Q, q.length = n) ∧ P.length + Q.length = m.length ∧ Ev (fun k => spec_l5Reduce.f k m (cols : Int)) ((P.map (·.1)).reverse ++ Q) := by
 have h1 := h.pos;have h2 := h.cols;have h3 := h.le6;have h4 := h.rows
 obtain ⟨P, Q, hR, hP, hQ, hl, hev⟩ := specL1 h.start.1 h.le6 (by omega) hc hcn cols 0 [] (m.map tid) (by omega) (Red.start m) (by simp) (fun q hq => by
  obtain ⟨r, hr, rfl⟩ := List.mem_map.1 hq
  rw [tid_len, h.len r hr]) (by simp;omega)
 refine ⟨P, Q, hR, hP, hQ, by simpa using hl, ?_⟩
 unfold spec_l5Reduce.f
 exact specL0 m cols _ h.rows (fun x hx => by rw [h.len x hx];omega) h.start.2 (by simpa using hev) m.length 0 (by omega) (by omega)
theorem isMat_iff (m : List (List Int)) (c : Int) : isMat m c = true ↔ (1 ≤ c ∧ c ≤ 6) ∧ m.length ≤ 12 ∧ ∀ r ∈ m, (r.length : Int) = c ∧ ∀ x ∈ r, -2 ≤ x ∧ x ≤ 2 := by
 unfold isMat rowOk
 simp only [Bool.and_eq_true, decide_eq_true_eq, List.all_eq_true]
 constructor
 ·rintro ⟨⟨h1, h2⟩, h3⟩
  exact ⟨h1, h2, h3⟩
 ·rintro ⟨h1, h2, h3⟩
  exact ⟨⟨h1, h2⟩, h3⟩
theorem red_rest {S : V → Prop} {c n : Nat} {P : List (List Int × Nat)} {Q : List (List Int)} (h : Red S c P Q) (hcn : n ≤ c) (hQ : ∀ q ∈ Q, q.length = n) : ∀ q ∈ Q, ∀ j, at0 q j = 0 := fun q hq j => by
 rcases Nat.lt_or_ge j c with hj | hj
 ·exact h.low q hq j hj
 ·exact at0_out (by rw [hQ q hq]; omega)
theorem okm_of_isMat {m : List (List Int)} {c : Int} (h : isMat m c = true) : ∃ n : Nat, c = (n : Int) ∧ Okm m n n ∧ m.length ≤ 12 := by
 have h' := (isMat_iff m c).1 h
 obtain ⟨h1, h2, h3⟩ := h'
 refine ⟨c.toNat, by omega, ⟨by omega, by omega, by omega, by omega, fun r hr => ?_, fun r hr j => ?_⟩, h2⟩
 ·have := (h3 r hr).1
  omega
 ·have h4 := h3 r hr
  rcases Nat.lt_or_ge j r.length with hj|hj
  ·rw [at0_lt hj]
   have h5 := h4.2 _ (List.getElem_mem hj)
   unfold bnd
   rw [if_pos (by omega)]
   omega
  ·rw [at0_out hj]
   simp
theorem specRR_l0 (rows : List (List Int)) (cols : Nat) (hr : rows.length ≤ 1000) (hl : ∀ x ∈ rows, x.length ≤ 16777216) (hc : cols ≤ 1000) (d : Nat) : ∀ i : Nat, rows.length - i = d → i ≤ rows.length → Ev (fun k => spec_ReduceRows.l0 k (cols : Int) ((rows.take i).filter fun x => decide (ld x < cols)) rows (i : Int)) (rows.filter fun x => decide (ld x < cols)) := by
 induction d with
|zero =>
  intro i hd hi
  rw [List.take_of_length_le (by omega)]
  refine Ev.step (f := fun _ => some (rows.filter fun x => decide (ld x < cols))) (fun k => ?_) (Ev.now _)
  simp only [spec_ReduceRows.l0]
  rw [if_neg (by omega)]
|succ d ih =>
  intro i hd hi
  have h : i < rows.length := by omega
  have hx := hl _ (List.getElem_mem h)
  have hlead := leadS_ev rows[i] hx
  have ht : rows.take (i + 1) = rows.take i ++ [rows[i]] := List.take_succ_eq_append_getElem h
  have hfl : ((rows.take i).filter fun x => decide (ld x < cols)).length ≤ 1000 := by
   have h1 := List.length_filter_le (fun x => decide (ld x < cols)) (rows.take i)
   have h2 : (rows.take i).length ≤ rows.length := by rw [List.length_take];omega
   omega
  have hih := ih (i + 1) (by omega) (by omega)
  rw [ht, List.filter_append] at hih
  refine Ev.step (f := fun k => (spec_l5Lead.f k rows[i]).bind fun t => if t < (cols : Int) then spec_ReduceRows.l0 k (cols : Int) (((rows.take i).filter fun x => decide (ld x < cols)) ++ [rows[i]]) rows ((i + 1 : Nat) : Int) else spec_ReduceRows.l0 k (cols : Int) ((rows.take i).filter fun x => decide (ld x < cols)) rows ((i + 1 : Nat) : Int)) (fun k => ?_) (Ev.bind hlead ?_)
  ·simp only [spec_ReduceRows.l0]
   rw [if_pos (by omega), if_pos (by omega), rdL_nat rows i h, wrap_id (by omega) (by omega)]
   have h4 : rows[i].length < 17592186044416 := by omega
   have h5 : ((rows.take i).filter fun x => decide (ld x < cols)).length < 5864062014805 := by omega
   simp only [Option.bind_some, List.nil_append, List.length_nil, Nat.zero_add, if_pos h4, if_pos h5]
   rfl
  ·by_cases hlt : ld rows[i] < cols
   ·have e : [rows[i]].filter (fun x => decide (ld x < cols)) = [rows[i]] := by simp [hlt]
    rw [e] at hih
    simp only [if_pos (show (ld rows[i] : Int) < (cols : Int) by omega)]
    exact hih
   ·have e : [rows[i]].filter (fun x => decide (ld x < cols)) = [] := by simp;omega
    rw [e, List.append_nil] at hih
    simp only [if_neg (show ¬ (ld rows[i] : Int) < (cols : Int) by omega)]
    exact hih
theorem red_kept {S : V → Prop} {c n : Nat} {P : List (List Int × Nat)} {Q : List (List Int)} (h : Red S c P Q) (hcn : c ≤ n) (hQ : ∀ q ∈ Q, q.length = n) : ((P.map (·.1)).reverse ++ Q).filter (fun x => decide (ld x < c)) = (P.map (·.1)).reverse := by
 rw [List.filter_append, List.filter_eq_self.2, List.filter_eq_nil_iff.2, List.append_nil]
 ·intro q hq
  have h1 : c ≤ ld q := Nat.le_of_not_lt fun hlt => ld_ne q (by rw [hQ q hq]; omega) (h.low q hq _ hlt)
  simpa using h1
 ·intro x hx
  obtain ⟨p, hp, rfl⟩ := List.mem_map.1 (List.mem_reverse.1 hx)
  have h1 := ld_eq p.1 p.2 (h.lead p hp) (by have := h.pos p hp; omega)
  have h2 := h.ncol p hp
  simp
  omega
theorem specRR_ev (m : List (List Int)) (c : Int) (hm : m.length ≤ 16777216) (hr : ∀ x ∈ m, x.length ≤ 16777216) : ∃ R : List (List Int), Ev (fun k => spec_ReduceRows.f k m c) R ∧ R.length ≤ 1000 ∧ (∀ x ∈ R, x.length ≤ 1000) ∧
  (isMat m c = true → ∃ (n : Nat) (P : List (List Int × Nat)) (Q : List (List Int)), c = (n : Int) ∧ Okm m n n ∧ Red (RowSp m) n P Q ∧ (∀ p ∈ P, p.1.length = n) ∧ (∀ q ∈ Q, ∀ j, at0 q j = 0) ∧ R = (P.map (·.1)).reverse) ∧ (isMat m c = false → R = []) := by
 have hms := specMat_ev m hm hr c
 cases hb : isMat m c with
|false =>
  rw [hb] at hms
  refine ⟨[], ?_, by simp, by simp, by simp, by simp⟩
  unfold spec_ReduceRows.f
  simp only [Option.bind_some]
  refine Ev.bind hms ?_
  simp only [Bool.false_eq_true, if_false]
  exact Ev.now _
|true =>
  rw [hb] at hms
  obtain ⟨n, rfl, hok, hm12⟩ := okm_of_isMat hb
  have h1 := hok.pos;have h3 := hok.le6
  obtain ⟨P, Q, hR, hP, hQ, hl2, hevS⟩ := specRed hok (cols := n) (Nat.le_refl _) (Nat.le_refl _)
  have hz := red_rest hR (Nat.le_refl _) hQ
  have hPl := hR.len
  have hfin := specRR_l0 ((P.map (·.1)).reverse ++ Q) n (by rw [List.length_append, List.length_reverse, List.length_map];omega) (fun x hx => by
   rcases List.mem_append.1 hx with h|h
   ·obtain ⟨p, hp, rfl⟩ := List.mem_map.1 (List.mem_reverse.1 h)
    rw [hP p hp];omega
   ·rw [hQ x h];omega) (by omega) _ 0 rfl (by omega)
  rw [red_kept hR (Nat.le_refl _) hQ] at hfin
  refine ⟨(P.map (·.1)).reverse, ?_, by simp;omega, fun x hx => ?_, fun _ => ⟨n, P, Q, rfl, hok, hR, hP, hz, rfl⟩, by simp⟩
  ·unfold spec_ReduceRows.f
   simp only [Option.bind_some]
   refine Ev.bind hms ?_
   simp only [if_true]
   refine Ev.bind hevS ?_
   simpa using hfin
  ·obtain ⟨p, hp, rfl⟩ := List.mem_map.1 (List.mem_reverse.1 hx)
   rw [hP p hp];omega
def bothB (m : List (List Int)) (row : List Int) : Bool := isMat m (row.length : Int) && isMat [row] (row.length : Int)
theorem okm_append {m : List (List Int)} {row : List Int} {n : Nat} (h : Okm m n n) (hm : m.length ≤ 12) (hl : row.length = n) (hs : ∀ j, (at0 row j).natAbs ≤ bnd n j) : Okm (m ++ [row]) n n :=
 ⟨h.pos, h.cols, h.le6, by simp; omega, fun r hr => by
  rcases List.mem_append.1 hr with h' | h'
  ·exact h.len r h'
  ·rw [List.mem_singleton.1 h']; exact hl, fun r hr j => by
  rcases List.mem_append.1 hr with h' | h'
  ·exact h.small r h' j
  ·rw [List.mem_singleton.1 h']; exact hs j⟩
theorem sp_sub {m : List (List Int)} (row : List Int) {v : V} (h : Sp (RowSp m) v) : Sp (RowSp (m ++ [row])) v := h.mono fun v ⟨r, hr, e⟩ => ⟨r, List.mem_append_left _ hr, e⟩
theorem sp_sup {m : List (List Int)} {row : List Int} (hrow : Sp (RowSp m) (at0 row)) {v : V} (h : Sp (RowSp (m ++ [row])) v) : Sp (RowSp m) v := h.trans fun v ⟨r, hr, e⟩ => by
 rcases List.mem_append.1 hr with h' | h'
 ·exact Sp.of ⟨r, h', e⟩
 ·rw [← e, List.mem_singleton.1 h']; exact hrow
theorem sorted_sub : ∀ (l l' : List Nat), l.Pairwise (· > ·) → l'.Pairwise (· > ·) → (∀ k ∈ l, k ∈ l') → l'.length ≤ l.length → l = l'
 | [], l', _, _, _, h => (List.eq_nil_of_length_eq_zero (by simpa using h)).symm
 | a :: l, [], _, _, h, _ => absurd (h a (by simp)) (by simp)
 | a :: l, b :: l', h1, h2, h, hl => by
  have h1' := List.pairwise_cons.1 h1
  have h2' := List.pairwise_cons.1 h2
  have hnod : (a :: l).Nodup := h1.imp fun h => by omega
  by_cases e : a = b
  ·subst e
   rw [sorted_sub l l' h1'.2 h2'.2 (fun k hk => by
    rcases List.mem_cons.1 (h k (by simp [hk])) with e | h
    ·have := h1'.1 k hk; omega
    ·exact h) (by simpa using hl)]
  ·exfalso
   have ha : a ∈ l' := by
    rcases List.mem_cons.1 (h a (by simp)) with e' | h'
    ·exact absurd e' e
    ·exact h'
   have hab := h2'.1 a ha
   have hall : ∀ k ∈ a :: l, k ∈ l' := fun k hk => by
    rcases List.mem_cons.1 (h k hk) with e' | h'
    ·rcases List.mem_cons.1 hk with e2 | h2
     ·omega
     ·have := h1'.1 k h2; omega
    ·exact h'
   have := hnod.length_le_of_subset (l₂ := l') hall
   simp only [List.length_cons] at this hl
   omega
theorem sp_of_res {S : V → Prop} {P : List (List Int × Nat)} {L : Int} (hL : L ≠ 0) (hP : ∀ p ∈ P, Sp S (at0 p.1)) {v : V} (h : ∀ j, res L P v j = 0) : Sp S v := by
 refine Sp.div L hL ((sumOver_mem S P (fun p => L / at0 p.1 p.2 * v p.2) hP).congr fun j => ?_)
 have := h j
 unfold res at this
 omega
theorem span_iff {m : List (List Int)} {row : List Int} {n : Nat} {P P2 : List (List Int × Nat)} {Q Q2 : List (List Int)} (h : Red (RowSp m) n P Q) (h2 : Red (RowSp (m ++ [row])) n P2 Q2) (hz2 : ∀ q ∈ Q2, ∀ j, at0 q j = 0) :
  P.length = P2.length ↔ Sp (RowSp m) (at0 row) := by
 constructor
 ·intro hl
  have hc : P.map (·.2) = P2.map (·.2) := sorted_sub _ _ h.sorted h2.sorted (fun k hk => by
   obtain ⟨hkn, v, hv, hh⟩ := (h.mem_iff k).1 hk
   exact (h2.mem_iff k).2 ⟨hkn, v, sp_sub row hv, hh⟩) (by simp [hl])
  refine sp_of_res (P := P) (common_ne h.st.piv.2.1) h.st.inP fun j => ?_
  have hmem : Sp (RowSp (m ++ [row])) (res (common P) P (at0 row)) := res_mem _ (Sp.of ⟨row, by simp, rfl⟩) fun p hp => sp_sub row (h.st.inP p hp)
  refine zero_of_piv h2.st.piv (h2.span hz2 hmem) (fun p2 hp2 => ?_) j
  have : p2.2 ∈ P.map (·.2) := by rw [hc];exact List.mem_map_of_mem hp2
  obtain ⟨p, hp, e⟩ := List.mem_map.1 this
  rw [← e]
  exact res_piv h.st.piv (common P) dvd_common (at0 row) p hp
 ·intro hs
  have := h.cols h2 fun v => ⟨sp_sub row, sp_sup hs⟩
  have := congrArg List.length this
  simpa using this
theorem implSpan_j0 {m : List (List Int)} {row : List Int} {n : Nat} (hm : Okm m n n) (hm12 : m.length ≤ 12) (hl : row.length = n) (hs : ∀ j, (at0 row j).natAbs ≤ bnd n j) : ∃ b : Bool, Ev (fun k => impl_IsInSpan.j0 k m row (n : Int) false) b ∧ (b = true ↔ Sp (RowSp m) (at0 row)) := by
 obtain ⟨P, Q, hR, hP, hQ, hev⟩ := implRed hm
 obtain ⟨P2, Q2, hR2, hP2, hQ2, hev2⟩ := implRed (okm_append hm hm12 hl hs)
 refine ⟨((P.map (·.1)).reverse.length : Int) == ((P2.map (·.1)).reverse.length : Int), ?_, ?_⟩
 ·refine Ev.step (f := fun k => (impl_reduceAny.f k m (n : Int)).bind fun t => (impl_reduceAny.f k (m ++ [row]) (n : Int)).bind fun u => some ((t.length : Int) == (u.length : Int))) (fun k => ?_) (Ev.bind hev (Ev.bind hev2 (Ev.now _)))
  have hc : slices_Clone_int_int_78.f m = some m := by
   unfold slices_Clone_int_int_78.f
   simp only [Option.bind_some, List.length_nil, List.nil_append, Nat.zero_add]
   rw [if_pos (by omega)]
  simp only [impl_IsInSpan.j0]
  rw [if_neg (by decide), hc]
  simp only [Option.bind_some, if_pos (show m.length < 5864062014805 by omega)]
 ·rw [beq_iff_eq, ← span_iff hR hR2 (red_rest hR2 (Nat.le_refl _) hQ2)]
  simp only [List.length_reverse, List.length_map]
  omega
theorem implSpan_ev (m : List (List Int)) (row : List Int) (hm : m.length ≤ 16777216) (hr : ∀ x ∈ m, x.length ≤ 16777216) (hl : row.length ≤ 16777216) : ∃ b : Bool, Ev (fun k => impl_IsInSpan.f k m row) b ∧
  (bothB m row = true → (b = true ↔ Sp (RowSp m) (at0 row))) ∧ (bothB m row = false → b = false) := by
 have h1 := implMat_ev m hm hr (row.length : Int)
 have h2 := implMat_ev [row] (by simp) (fun x hx => by rw [List.mem_singleton.1 hx];exact hl) (row.length : Int)
 have hj : Ev (fun k => impl_IsInSpan.j0 k m row (row.length : Int) true) false := Ev.step (f := fun _ => some false) (fun k => by simp only [impl_IsInSpan.j0];rw [if_pos trivial]) (Ev.now _)
 cases hb : isMat m (row.length : Int) with
|false =>
  rw [hb] at h1
  refine ⟨false, ?_, by simp [bothB, hb], by simp⟩
  unfold impl_IsInSpan.f
  refine Ev.bind h1 ?_
  simp only [Bool.false_eq_true, if_false]
  exact hj
|true =>
  rw [hb] at h1
  cases hb2 : isMat [row] (row.length : Int) with
 |false =>
   rw [hb2] at h2
   refine ⟨false, ?_, by simp [bothB, hb2], by simp⟩
   unfold impl_IsInSpan.f
   refine Ev.bind h1 ?_
   simp only [if_true]
   refine Ev.bind h2 ?_
   simp only [Bool.not_false]
   exact hj
 |true =>
   rw [hb2] at h2
   obtain ⟨n, hn, hok, hm12⟩ := okm_of_isMat hb
   obtain ⟨n2, hn2, hok2, _⟩ := okm_of_isMat hb2
   have e1 : row.length = n := by omega
   have e2 : n2 = n := by omega
   subst e2
   obtain ⟨b, hbe, hbi⟩ := implSpan_j0 hok hm12 e1 (hok2.small row (by simp))
   refine ⟨b, ?_, fun _ => hbi, by simp [bothB, hb, hb2]⟩
   unfold impl_IsInSpan.f
   refine Ev.bind h1 ?_
   simp only [if_true]
   refine Ev.bind h2 ?_
   simp only [Bool.not_true]
   rw [e1]
   exact hbe
theorem sum_small (g : List Int × Nat → Int) (B : Nat) : ∀ l : List (List Int × Nat), (∀ p ∈ l, (g p).natAbs ≤ B) → (sumOver g l).natAbs ≤ l.length * B
 | [], _ => by simp [sumOver]
 | p :: l, h => by
  have h1 := h p (by simp)
  have h2 := sum_small g B l fun q hq => h q (by simp [hq])
  simp only [sumOver, List.length_cons, Nat.add_mul, Nat.one_mul]
  omega
structure SpanInv (D : Int) (row : List Int) (B : List (List Int × Nat)) (n : Nat) (x : List Int) : Prop where
 len : x.length = n
 small : ∀ j, (at0 x j).natAbs ≤ 645120
 prop : ∃ a b : Int, a ≠ 0 ∧ b ≠ 0 ∧ ∀ j, a * at0 x j = b * res D B (at0 row) j
theorem specSpan_l0 {m : List (List Int)} {row : List Int} {n : Nat} {P : List (List Int × Nat)} {Q : List (List Int)} (h : Red (RowSp m) n P Q) (hsm_rows : ∀ r ∈ m, ∀ j, (at0 r j).natAbs ≤ bnd n j) (hP : ∀ p ∈ P, p.1.length = n) (hn : n ≤ 6) (hrl : row.length = n) (hrs : ∀ j, (at0 row j).natAbs ≤ bnd n j) {D : Int} (hD : 0 < D) (hD2 : D ≤ 46080)
  (he : ∀ p ∈ P, ∃ e : Int, 0 < e ∧ D = at0 p.1 p.2 * e ∧ (∀ j, j < n → (e * at0 p.1 j).natAbs ≤ 46080) ∧ ∀ j, (e * at0 p.1 j).natAbs ≤ 23040000) (d : Nat) : ∀ (A B : List (List Int × Nat)) (x : List Int), A.length = d → P = A ++ B → SpanInv D row B n x →
  ∃ b : Bool, Ev (fun k => spec_IsInSpan.l0 k x (P.map (·.1)).reverse (B.length : Int)) b ∧ (b = true ↔ ∀ j, res D P (at0 row) j = 0) := by
 have hPl := h.len
 induction d with
|zero =>
  intro A B x hA hAB hx
  have hA0 : A = [] := List.eq_nil_of_length_eq_zero hA
  subst hA0
  obtain rfl : P = B := hAB
  have hlead := leadS_ev x (by rw [hx.len];omega)
  refine ⟨(ld x : Int) == (x.length : Int), ?_, ?_⟩
  ·refine Ev.step (f := fun k => (spec_l5Lead.f k x).bind fun t => some (t == (x.length : Int))) (fun k => ?_) (Ev.bind hlead (Ev.now _))
   simp only [spec_IsInSpan.l0]
   rw [if_neg (by simp)]
  ·rw [beq_iff_eq]
   obtain ⟨a, b, ha, hb, hp⟩ := hx.prop
   constructor
   ·intro hl j
    have h0 := zero_of_ld x (by omega) j
    have := hp j
    rw [h0, Int.mul_zero] at this
    exact (Int.mul_eq_zero.1 this.symm).resolve_left hb
   ·intro hz
    have : ∀ j, at0 x j = 0 := fun j => by
     have h1 := hp j
     rw [hz j, Int.mul_zero] at h1
     exact (Int.mul_eq_zero.1 h1).resolve_left ha
    rw [ld_zero x this]
|succ d ih =>
  intro A B x hA hAB hx
  obtain ⟨A', p, rfl⟩ : ∃ A' p, A = A' ++ [p] := by
   rcases List.eq_nil_or_concat A with h|⟨A', p, h⟩
   ·rw [h] at hA;simp at hA
   ·exact ⟨A', p, by simpa using h⟩
  have hpm : p ∈ P := by rw [hAB];simp
  have hBm : ∀ q ∈ B, q ∈ P := fun q hq => by rw [hAB];simp [hq]
  obtain ⟨e, he0, heD, hes, _⟩ := he p hpm
  have hpos := h.pos p hpm
  have hpn : p.2 < n := h.ncol p hpm
  have hld : ld p.1 = p.2 := ld_eq p.1 p.2 (h.lead p hpm) (by omega)
  have hAB2 : P = A' ++ (p :: B) := by rw [hAB, List.append_assoc];rfl
  have hdiv : D / at0 p.1 p.2 = e := by rw [heD];exact Int.mul_ediv_cancel_left _ (by omega)
  have hBk : ∀ q ∈ B, at0 q.1 p.2 = 0 := fun q hq => by
   refine h.st.piv.2.2 q (hBm q hq) p hpm fun e2 => ?_
   have hnd := h.st.piv.1
   rw [hAB2, List.map_append, List.map_cons] at hnd
   have h3 := (List.nodup_append.1 hnd).2.1
   exact (List.nodup_cons.1 h3).1 (by rw [← e2];exact List.mem_map_of_mem hq)
  have hresk : res D B (at0 row) p.2 = D * at0 row p.2 := by
   unfold res
   rw [sumOver_zero _ _ fun q hq => by rw [hBk q hq];simp]
   omega
  have hresc : ∀ j, res D (p :: B) (at0 row) j = res D B (at0 row) j - e * at0 row p.2 * at0 p.1 j := fun j => by
   unfold res
   simp only [sumOver]
   rw [hdiv]
   omega
  have hress : ∀ j, (res D (p :: B) (at0 row) j).natAbs ≤ 645120 := fun j => by
   rcases Nat.lt_or_ge j n with hj|hj
   ·have hlen : (p :: B).length ≤ 6 := by
     have := congrArg List.length hAB2
     simp only [List.length_append, List.length_cons] at this ⊢
     omega
    have hs := sum_small (fun q => D / at0 q.1 q.2 * at0 row q.2 * at0 q.1 j) 92160 (p :: B) fun q hq => by
     have hqm : q ∈ P := by
      rcases List.mem_cons.1 hq with h'|h'
      ·rw [h'];exact hpm
      ·exact hBm q h'
     obtain ⟨eq, heq0, heqD, heqs, _⟩ := he q hqm
     have hqpos := h.pos q hqm
     have hqd : D / at0 q.1 q.2 = eq := by rw [heqD];exact Int.mul_ediv_cancel_left _ (by omega)
     show (D / at0 q.1 q.2 * at0 row q.2 * at0 q.1 j).natAbs ≤ 92160
     rw [hqd, Int.mul_right_comm, Int.natAbs_mul]
     have h1 := heqs j hj
     have h2 := hrs q.2
     have h3 : bnd n q.2 = 2 := by unfold bnd;rw [if_pos (h.ncol q hqm)]
     rw [h3] at h2
     exact Nat.mul_le_mul h1 h2
    have h4 : (D * at0 row j).natAbs ≤ 92160 := by
     rw [Int.natAbs_mul]
     have h2 := hrs j
     have h3 : bnd n j = 2 := by unfold bnd;rw [if_pos hj]
     rw [h3] at h2
     have : D.natAbs ≤ 46080 := by omega
     exact Nat.mul_le_mul this h2
    have h5 : (p :: B).length * 92160 ≤ 6 * 92160 := Nat.mul_le_mul_right _ hlen
    unfold res
    omega
   ·have h0 : res D (p :: B) (at0 row) j = 0 := by
     unfold res
     rw [at0_out (by rw [hrl];exact hj), sumOver_zero _ _ fun q hq => by
      have hqm : q ∈ P := by
       rcases List.mem_cons.1 hq with h'|h'
       ·rw [h'];exact hpm
       ·exact hBm q h'
      rw [show at0 q.1 j = 0 from at0_out (by rw [hP q hqm];exact hj)];simp]
     simp
    rw [h0]
    exact Nat.zero_le _
  obtain ⟨a, b, ha, hb, hprop⟩ := hx.prop
  have hi : B.length < (P.map (·.1)).reverse.length := by rw [hAB2];simp
  have hRi : (P.map (·.1)).reverse[B.length] = p.1 := by
   have : (P.map (·.1)).reverse = (B.map (·.1)).reverse ++ (p.1 :: (A'.map (·.1)).reverse) := by rw [hAB2];simp
   simp only [this]
   rw [List.getElem_append_right (by simp)]
   simp
  have hlp := leadS_ev p.1 (by rw [hP p hpm];omega)
  rw [hld] at hlp
  have hxp : x.length = p.1.length := by rw [hx.len, hP p hpm]
  have hstep : ∀ k, spec_IsInSpan.l0 (k + 1) x (P.map (·.1)).reverse (B.length : Int) = (spec_l5Lead.f k p.1).bind fun t => if 0 ≤ t then (if t < (x.length : Int) then (if rd x t = 0 then spec_IsInSpan.l0 k x (P.map (·.1)).reverse (((p :: B).length : Nat) : Int) else (spec_l5Clear.f k x p.1 t).bind fun u => spec_IsInSpan.l0 k u (P.map (·.1)).reverse (((p :: B).length : Nat) : Int)) else none) else none := fun k => by
   simp only [spec_IsInSpan.l0]
   rw [if_pos (by omega), if_pos (by omega), rdL_nat _ _ hi, hRi, wrap_id (by simp at hi;omega) (by simp at hi;omega)]
   rfl
  have hbd := hx.prop
  by_cases hxk : at0 x p.2 = 0
  ·have hrow0 : at0 row p.2 = 0 := by
    have h1 := hprop p.2
    rw [hxk, Int.mul_zero, hresk] at h1
    rcases Int.mul_eq_zero.1 h1.symm with h2|h2
    ·exact absurd h2 hb
    ·exact (Int.mul_eq_zero.1 h2).resolve_left (by omega)
   obtain ⟨c, hce, hci⟩ := ih A' (p :: B) x (by simpa using hA) hAB2 ⟨hx.len, hx.small, a, b, ha, hb, fun j => by rw [hresc, hrow0, Int.mul_zero, Int.zero_mul, Int.sub_zero];exact hprop j⟩
   refine ⟨c, Ev.step hstep (Ev.bind hlp ?_), hci⟩
   simp only [if_pos (show (0 : Int) ≤ (p.2 : Int) by omega), if_pos (show (p.2 : Int) < (x.length : Int) by rw [hx.len];omega), at0_rd, if_pos hxk]
   exact hce
  ·have hcl := clearS_ev x p.1 p.2 hxp (by rw [hx.len];omega) (by rw [hx.len];omega) (fun j => by have := hx.small j;omega) (fun j => by
    have := h.small_piv' (m := n) (fun o ho j => by
     obtain ⟨r, hr, rfl⟩ := ho
     exact hsm_rows r hr j) (Nat.le_refl _) hn p hpm j
    omega)
   have hy : ∀ j, a * at0 (comb x p.1 p.2) j = at0 p.1 p.2 * b * res D (p :: B) (at0 row) j := fun j => by
    rw [comb_at x p.1 p.2 hxp, hresc]
    have h1 := hprop j
    have h2 := hprop p.2
    rw [hresk] at h2
    have h3 : a * (at0 x j * at0 p.1 p.2 - at0 p.1 j * at0 x p.2) = at0 p.1 p.2 * (a * at0 x j) - at0 p.1 j * (a * at0 x p.2) := by
     rw [Int.mul_sub, ← Int.mul_assoc, Int.mul_comm (a * at0 x j), Int.mul_left_comm a (at0 p.1 j)]
    rw [h3, h1, h2, heD, Int.mul_sub, Int.mul_assoc (at0 p.1 p.2) b]
    congr 1
    simp only [Int.mul_assoc, Int.mul_comm, Int.mul_left_comm]
   obtain ⟨g, hg, hgt⟩ := tid_fac (comb x p.1 p.2)
   have hprop2 : ∀ j, a * g * at0 (tid (comb x p.1 p.2)) j = at0 p.1 p.2 * b * res D (p :: B) (at0 row) j := fun j => by
    rw [Int.mul_assoc, hgt j];exact hy j
   have ha2 : a * g ≠ 0 := Int.mul_ne_zero ha hg
   have hb2 : at0 p.1 p.2 * b ≠ 0 := Int.mul_ne_zero (by omega) hb
   obtain ⟨c, hce, hci⟩ := ih A' (p :: B) (tid (comb x p.1 p.2)) (by simpa using hA) hAB2 ⟨by rw [tid_len, comb_len x p.1 p.2 hxp, hx.len], fun j => by
    rcases tid_tq (comb x p.1 p.2) with h0|⟨hpr, _⟩
    ·rw [h0 j];simp
    ·have h1 := hpr.bound _ _ ha2 hb2 hprop2 j
     have h2 := hress j
     omega, a * g, at0 p.1 p.2 * b, ha2, hb2, hprop2⟩
   refine ⟨c, Ev.step hstep (Ev.bind hlp ?_), hci⟩
   simp only [if_pos (show (0 : Int) ≤ (p.2 : Int) by omega), if_pos (show (p.2 : Int) < (x.length : Int) by rw [hx.len];omega), at0_rd, if_neg hxk]
   exact Ev.bind hcl hce
theorem specSpan_ev (m : List (List Int)) (row : List Int) (hm : m.length ≤ 16777216) (hr : ∀ x ∈ m, x.length ≤ 16777216) (hl : row.length ≤ 16777216) : ∃ b : Bool, Ev (fun k => spec_IsInSpan.f k m row) b ∧
  (bothB m row = true → (b = true ↔ Sp (RowSp m) (at0 row))) ∧ (bothB m row = false → b = false) := by
 have h1 := specMat_ev m hm hr (row.length : Int)
 have h2 := specMat_ev [row] (by simp) (fun x hx => by rw [List.mem_singleton.1 hx];exact hl) (row.length : Int)
 have hboth : Ev (fun k => spec_l5Both.f k m row) (bothB m row) := by
  unfold spec_l5Both.f bothB
  refine Ev.bind h1 ?_
  cases isMat m (row.length : Int) with
 |false =>
   simp only [Bool.false_eq_true, if_false, Bool.false_and]
   exact Ev.now _
 |true =>
   simp only [if_true, Bool.true_and]
   exact Ev.bind h2 (Ev.now _)
 cases hb : bothB m row with
|false =>
  rw [hb] at hboth
  refine ⟨false, ?_, (fun h => by cases h), fun _ => rfl⟩
  unfold spec_IsInSpan.f
  refine Ev.bind hboth ?_
  simp only [Bool.false_eq_true, if_false]
  exact Ev.now _
|true =>
  rw [hb] at hboth
  have hb1 : isMat m (row.length : Int) = true ∧ isMat [row] (row.length : Int) = true := by simpa [bothB] using hb
  obtain ⟨R, hS, hRl, hRr, hT, _⟩ := specRR_ev m (row.length : Int) hm hr
  obtain ⟨n, P, Q, hn, hok, hR, hP, hz, hRe⟩ := hT hb1.1
  obtain ⟨n2, hn2, hok2, _⟩ := okm_of_isMat hb1.2
  have e1 : row.length = n := by omega
  have e2 : n2 = n := by omega
  subst e2
  obtain ⟨D, hD, hD2, he⟩ := hR.small_piv (m := n2) hok.start.1 (Nat.le_refl _) hok.le6
  have hrs := hok2.small row (by simp)
  obtain ⟨b, hbe, hbi⟩ := specSpan_l0 hR hok.small hP hok.le6 e1 hrs hD hD2 he P.length P [] row rfl (by simp) ⟨e1, fun j => by
   have := hrs j
   have := bnd_le n2 j
   omega, D, 1, by omega, by decide, fun j => by simp [res, sumOver]⟩
  refine ⟨b, ?_, fun _ => hbi.trans ⟨fun h => sp_of_res (by omega) hR.st.inP h, fun h j => res_span hR.st.piv D (fun p hp => by
   obtain ⟨e, _, hDe, _⟩ := he p hp
   exact ⟨e, hDe⟩) (hR.span hz h) j⟩, (fun h => by cases h)⟩
  unfold spec_IsInSpan.f
  refine Ev.bind hboth ?_
  simp only [if_true, Option.bind_some, List.length_nil, List.nil_append, Nat.zero_add]
  simp only [if_pos (show row.length < 17592186044416 by omega)]
  refine Ev.bind hS ?_
  rw [hRe]
  exact hbe
theorem span_both (m : List (List Int)) (row : List Int) (hm : m.length ≤ 16777216) (hr : ∀ x ∈ m, x.length ≤ 16777216) (hl : row.length ≤ 16777216) : ∃ b : Bool, Ev (fun k => impl_IsInSpan.f k m row) b ∧ Ev (fun k => spec_IsInSpan.f k m row) b ∧
  (bothB m row = true → (b = true ↔ Sp (RowSp m) (at0 row))) ∧ (bothB m row = false → b = false) := by
 obtain ⟨b, h1, h2, h3⟩ := implSpan_ev m row hm hr hl
 obtain ⟨c, k1, k2, k3⟩ := specSpan_ev m row hm hr hl
 have e : b = c := by
  cases hb : bothB m row with
  | false => rw [h3 hb, k3 hb]
  | true => rw [Bool.eq_iff_iff]; exact (h2 hb).trans (k2 hb).symm
 subst e
 exact ⟨b, h1, k1, h2, h3⟩
theorem at0_set (v : List Int) (k : Nat) (x : Int) (h : k < v.length) (j : Nat) : at0 (v.set k x) j = if j = k then x else at0 v j := by
 unfold at0
 rw [List.getD_eq_getElem?_getD, List.getD_eq_getElem?_getD, List.getElem?_set]
 by_cases e : j = k
 ·rw [if_pos e, if_pos e.symm, if_pos (by omega)]
  rfl
 ·rw [if_neg e, if_neg (fun h => e h.symm)]
def dotN (a w : V) : Nat → Int
 | 0 => 0
 | i + 1 => dotN a w i + a i * w i
theorem dotN_zero {a w : V} : ∀ n : Nat, (∀ j, j < n → a j = 0 ∨ w j = 0) → dotN a w n = 0
 | 0, _ => rfl
 | n + 1, h => by
  simp only [dotN]
  rw [dotN_zero n fun j hj => h j (by omega)]
  rcases h n (by omega) with e | e <;> rw [e] <;> simp
theorem dotN_set (a b w : V) (k : Nat) (x : Int) (hb : ∀ j, b j = if j = k then x else a j) : ∀ n : Nat, dotN b w n = dotN a w n + if k < n then (x - a k) * w k else 0
 | 0 => by simp [dotN]
 | n + 1 => by
  simp only [dotN]
  rw [dotN_set a b w k x hb n, hb n]
  by_cases e : n = k
  ·subst e
   rw [if_neg (by omega), if_pos rfl, if_pos (by omega), Int.sub_mul]
   omega
  ·rw [if_neg e]
   by_cases h : k < n
   ·rw [if_pos h, if_pos (by omega)]; omega
   ·rw [if_neg h, if_neg (by omega)]; omega
theorem dotN_bound (a w : V) (B : Nat) : ∀ n : Nat, (∀ j, j < n → (a j * w j).natAbs ≤ B) → (dotN a w n).natAbs ≤ n * B
 | 0, _ => by simp [dotN]
 | n + 1, h => by
  have h1 := dotN_bound a w B n fun j hj => h j (by omega)
  have h2 := h n (by omega)
  simp only [dotN, Nat.add_mul, Nat.one_mul]
  omega
def cmS (l : Int) (p : List Int × Nat) : Int := l / ((Int.gcd l (at0 p.1 p.2) : Nat) : Int) * at0 p.1 p.2
theorem cmS_lcm (l x : Int) (hl : 0 < l) (hx : 0 < x) : l / ((Int.gcd l x : Nat) : Int) * x = ((Nat.lcm l.natAbs x.natAbs : Nat) : Int) := by
 obtain ⟨a, rfl⟩ := Int.eq_ofNat_of_zero_le (Int.le_of_lt hl)
 obtain ⟨b, rfl⟩ := Int.eq_ofNat_of_zero_le (Int.le_of_lt hx)
 rw [show Int.gcd (a : Int) (b : Int) = Nat.gcd a b from rfl, Int.natAbs_natCast, Int.natAbs_natCast]
 have : a / Nat.gcd a b * b = Nat.lcm a b := by
  unfold Nat.lcm
  exact Nat.div_mul_right_comm (Nat.gcd_dvd_left a b) b
 rw [← this]
 simp
theorem cmS_ok (D l : Int) (p : List Int × Nat) (hl : 0 < l) (hx : 0 < at0 p.1 p.2) (h1 : l ∣ D) (h2 : at0 p.1 p.2 ∣ D) : 0 < cmS l p ∧ cmS l p ∣ D ∧ l ∣ cmS l p ∧ at0 p.1 p.2 ∣ cmS l p := by
 unfold cmS
 rw [cmS_lcm l _ hl hx]
 have e1 : 0 < l.natAbs := by omega
 have e2 : 0 < (at0 p.1 p.2).natAbs := by omega
 refine ⟨by have := Nat.lcm_pos e1 e2;omega, ?_, ?_, ?_⟩
 ·rw [Int.ofNat_dvd_left]
  exact Nat.lcm_dvd (Int.natAbs_dvd_natAbs.2 h1) (Int.natAbs_dvd_natAbs.2 h2)
 ·rw [← Int.natAbs_dvd, Int.natCast_dvd_natCast]
  exact Nat.dvd_lcm_left _ _
 ·rw [← Int.natAbs_dvd, Int.natCast_dvd_natCast]
  exact Nat.dvd_lcm_right _ _
theorem cm_ok (D : Int) : ∀ (L : List (List Int × Nat)) (l : Int), (∀ p ∈ L, 0 < at0 p.1 p.2 ∧ at0 p.1 p.2 ∣ D) → 0 < l → l ∣ D → 0 < L.foldl cmS l ∧ L.foldl cmS l ∣ D ∧ l ∣ L.foldl cmS l ∧ ∀ p ∈ L, at0 p.1 p.2 ∣ L.foldl cmS l
|[], l, _, hl, hd => ⟨hl, hd, Int.dvd_refl l, by simp⟩
|p :: L, l, h, hl, hd => by
  obtain ⟨h1, h2⟩ := h p (by simp)
  obtain ⟨k1, k2, k3, k4⟩ := cmS_ok D l p hl h1 hd h2
  obtain ⟨m1, m2, m3, m4⟩ := cm_ok D L (cmS l p) (fun q hq => h q (by simp [hq])) k1 k2
  refine ⟨m1, m2, Int.dvd_trans k3 m3, fun q hq => ?_⟩
  rcases List.mem_cons.1 hq with e|e
  ·rw [e];exact Int.dvd_trans k4 m3
  ·exact m4 q e
def nvStep (c : Int) (f : Nat) (v : List Int) (p : List Int × Nat) : List Int := v.set p.2 (-(at0 p.1 f) * (c / at0 p.1 p.2))
def nvOf (n : Nat) (c : Int) (f : Nat) (L : List (List Int × Nat)) : List Int := L.foldl (nvStep c f) ((List.replicate n 0).set f c)
theorem nvStep_len (c : Int) (f : Nat) : ∀ (L : List (List Int × Nat)) (v : List Int), (L.foldl (nvStep c f) v).length = v.length
 | [], _ => rfl
 | p :: L, v => by
  rw [List.foldl_cons, nvStep_len c f L]
  simp [nvStep]
theorem nv_dot (n : Nat) (c : Int) (f : Nat) (w : V) : ∀ (L : List (List Int × Nat)) (v : List Int), (L.map (·.2)).Nodup → v.length = n → (∀ p ∈ L, p.2 < n ∧ at0 v p.2 = 0) → dotN (at0 (L.foldl (nvStep c f) v)) w n = dotN (at0 v) w n - sumOver (fun p => c / at0 p.1 p.2 * w p.2 * at0 p.1 f) L
|[], v, _, _, _ => by simp [sumOver]
|p :: L, v, hn, hv, h => by
  obtain ⟨h1, h2⟩ := h p (by simp)
  rw [List.map_cons] at hn
  have hn' := List.nodup_cons.1 hn
  have hs := at0_set v p.2 (-(at0 p.1 f) * (c / at0 p.1 p.2)) (by omega)
  rw [List.foldl_cons, nv_dot n c f w L _ hn'.2 (by simp [nvStep, hv]) fun q hq => ?_]
  ·rw [dotN_set (at0 v) (at0 (nvStep c f v p)) w p.2 _ hs n, if_pos h1, h2]
   simp only [sumOver]
   have : (-(at0 p.1 f) * (c / at0 p.1 p.2) - 0) * w p.2 = -(c / at0 p.1 p.2 * w p.2 * at0 p.1 f) := by
    rw [Int.sub_zero, Int.neg_mul, Int.neg_mul, Int.mul_comm (at0 p.1 f), Int.mul_right_comm]
   rw [this]
   omega
  ·obtain ⟨k1, k2⟩ := h q (by simp [hq])
   refine ⟨k1, ?_⟩
   show at0 (v.set p.2 _) q.2 = 0
   rw [hs, if_neg fun e => hn'.1 (by rw [← e];exact List.mem_map_of_mem hq), k2]
theorem at0_rep (n : Nat) (j : Nat) : at0 (List.replicate n 0) j = 0 := by
 unfold at0
 rw [List.getD_eq_getElem?_getD, List.getElem?_replicate]
 split <;> rfl
theorem nv_res (n : Nat) (c : Int) (f : Nat) (L : List (List Int × Nat)) (w : V) (hn : (L.map (·.2)).Nodup) (hf : f < n) (hL : ∀ p ∈ L, p.2 < n) (hfL : ¬ f ∈ L.map (·.2)) : dotN (at0 (nvOf n c f L)) w n = res c L w f := by
 unfold nvOf
 have hs := at0_set (List.replicate n 0) f c (by simpa using hf)
 rw [nv_dot n c f w L _ hn (by simp) fun p hp => ⟨hL p hp, ?_⟩]
 ·rw [dotN_set (at0 (List.replicate n 0)) _ w f c hs n, if_pos hf, at0_rep, dotN_zero n fun j _ => Or.inl (at0_rep n j)]
  unfold res
  simp
 ·rw [hs, if_neg fun e => hfL (by rw [← e]; exact List.mem_map_of_mem hp), at0_rep]
theorem nv_at (c : Int) (f : Nat) : ∀ (L : List (List Int × Nat)) (v : List Int) (B : Nat), (∀ p ∈ L, p.2 < v.length ∧ (c / at0 p.1 p.2 * at0 p.1 f).natAbs ≤ B) → (∀ j, (at0 v j).natAbs ≤ B) → ∀ j, (at0 (L.foldl (nvStep c f) v) j).natAbs ≤ B
|[], v, B, _, h => h
|p :: L, v, B, hL, h => by
  obtain ⟨h1, h2⟩ := hL p (by simp)
  refine nv_at c f L _ B (fun q hq => ?_) fun j => ?_
  ·have := hL q (by simp [hq])
   simpa [nvStep] using this
  ·show (at0 (v.set p.2 _) j).natAbs ≤ B
   rw [at0_set v p.2 _ h1]
   split
   ·rw [Int.neg_mul, Int.natAbs_neg, Int.mul_comm];exact h2
   ·exact h j
theorem sumOver_append {α : Type} (g : α → Int) : ∀ (l m : List α), sumOver g (l ++ m) = sumOver g l + sumOver g m
 | [], m => by simp [sumOver]
 | a :: l, m => by
  simp only [List.cons_append, sumOver]
  rw [sumOver_append g l m]
  omega
theorem sumOver_reverse {α : Type} (g : α → Int) : ∀ l : List α, sumOver g l.reverse = sumOver g l
 | [] => rfl
 | a :: l => by
  rw [List.reverse_cons, sumOver_append, sumOver_reverse g l]
  simp only [sumOver]
  omega
theorem res_reverse (c : Int) (P : List (List Int × Nat)) (w : V) (j : Nat) : res c P.reverse w j = res c P w j := by
 unfold res
 rw [sumOver_reverse]
theorem fp5_le : ∀ n, n < 6 → fct n * 2 ^ n ≤ 3840 ∧ fct n * 2 ^ (n - 1) * 1000 ≤ 1920000 ∧ fct n * 2 ^ (n - 1) * 2 ≤ 3840 := by decide
theorem small_piv5 {S : V → Prop} {c m : Nat} {P : List (List Int × Nat)} {Q : List (List Int)} (h : Red S c P Q) (hb : ∀ o, S o → ∀ j, (o j).natAbs ≤ bnd m j) (hc : c ≤ m) (hm : P.length < 6) :
  ∃ D : Int, 0 < D ∧ D ≤ 3840 ∧ ∀ p ∈ P, ∃ e : Int, 0 < e ∧ D = at0 p.1 p.2 * e ∧ (∀ j, j < m → (e * at0 p.1 j).natAbs ≤ 3840) ∧ ∀ j, (e * at0 p.1 j).natAbs ≤ 1920000 := by
 obtain ⟨D, hD, hDb, hh⟩ := h.st.bound_piv (bnd m) hb h.prim
 have hk : ∀ k ∈ P.map (·.2), k < m := fun k hk => by
  obtain ⟨p, hp, rfl⟩ := List.mem_map.1 hk
  have := h.ncol p hp
  omega
 rw [prod_small m _ hk, List.length_map] at hDb
 have h2 := fp5_le P.length hm
 refine ⟨D.natAbs, by omega, by omega, fun p hp => ?_⟩
 obtain ⟨e, he, hj⟩ := hh p hp
 have hpos := h.pos p hp
 have hnn : (e.natAbs : Int) * at0 p.1 p.2 = D.natAbs := by
  rw [he, Int.natAbs_mul, Int.natCast_mul, Int.mul_comm]
  congr 1
  omega
 have hj' : ∀ j, ((e.natAbs : Int) * at0 p.1 j).natAbs ≤ fct P.length * (bnd m j * 2 ^ (P.length - 1)) := fun j => by
  have := hj j
  rw [prod_small m _ fun k h => hk k (List.mem_of_mem_erase h), List.length_erase_of_mem (List.mem_map_of_mem hp), List.length_map] at this
  rw [Int.natAbs_mul] at this ⊢
  simpa using this
 have he0 : e ≠ 0 := fun e0 => hD (by rw [he, e0, Int.mul_zero])
 refine ⟨e.natAbs, by omega, by rw [← hnn, Int.mul_comm], fun j hjm => ?_, fun j => ?_⟩
 ·have h3 := hj' j
  have h4 : bnd m j = 2 := by unfold bnd;rw [if_pos hjm]
  rw [h4] at h3
  have h5 : fct P.length * (2 * 2 ^ (P.length - 1)) = fct P.length * 2 ^ (P.length - 1) * 2 := by rw [Nat.mul_comm 2, Nat.mul_assoc]
  omega
 ·have h3 := hj' j
  have h4 : fct P.length * (bnd m j * 2 ^ (P.length - 1)) ≤ fct P.length * (1000 * 2 ^ (P.length - 1)) := Nat.mul_le_mul_left _ (Nat.mul_le_mul_right _ (bnd_le m j))
  have h5 : fct P.length * (1000 * 2 ^ (P.length - 1)) = fct P.length * 2 ^ (P.length - 1) * 1000 := by rw [Nat.mul_comm 1000, Nat.mul_assoc]
  omega
structure NvOk (n B : Nat) (D : Int) (p : List Int × Nat) : Prop where
 len : p.1.length = n
 col : p.2 < n
 ld : ld p.1 = p.2
 pos : 0 < at0 p.1 p.2
 ex : ∃ e : Int, 0 < e ∧ D = at0 p.1 p.2 * e ∧ ∀ j, j < n → (e * at0 p.1 j).natAbs ≤ B
theorem NvOk.dvd {n B : Nat} {D : Int} {p : List Int × Nat} (h : NvOk n B D p) : at0 p.1 p.2 ∣ D := by
 obtain ⟨e, _, h, _⟩ := h.ex
 exact ⟨e, h⟩
theorem NvOk.quot {n B : Nat} {D c : Int} {p : List Int × Nat} (h : NvOk n B D p) (hD : 0 < D) (hc : 0 < c) (h1 : c ∣ D) (h2 : at0 p.1 p.2 ∣ c) (j : Nat) (hj : j < n) : (c / at0 p.1 p.2 * at0 p.1 j).natAbs ≤ B := by
 obtain ⟨e, he, hDe, hb⟩ := h.ex
 obtain ⟨u, hu⟩ := h1
 obtain ⟨v, hv⟩ := h2
 have hp := h.pos
 have hu0 : 0 < u := by
  rcases Int.lt_or_le 0 u with h | h
  ·exact h
  ·have : c * u ≤ 0 := Int.mul_nonpos_of_nonneg_of_nonpos (by omega) h
   omega
 have e1 : e = v * u := by
  have : at0 p.1 p.2 * e = at0 p.1 p.2 * (v * u) := by rw [← hDe, hu, hv, Int.mul_assoc]
  exact Int.eq_of_mul_eq_mul_left (by omega) this
 have e2 : c / at0 p.1 p.2 = v := by rw [hv]; exact Int.mul_ediv_cancel_left _ (by omega)
 have := hb j hj
 rw [e1, Int.mul_right_comm, Int.natAbs_mul] at this
 rw [e2]
 have h3 : (v * at0 p.1 j).natAbs * 1 ≤ (v * at0 p.1 j).natAbs * u.natAbs := Nat.mul_le_mul_left _ (by omega)
 omega
theorem dotI_l0 (a b : List Int) (n : Nat) (ha : a.length = n) (hb : b.length = n) (hn : n ≤ 1000) (hs : ∀ j, j < n → (at0 a j * at0 b j).natAbs ≤ 1099511627776) (d : Nat) : ∀ i : Nat, n - i = d → i ≤ n → Ev (fun k => impl_DotOf.l0 k a b (dotN (at0 a) (at0 b) i) (n : Int) (i : Int)) (dotN (at0 a) (at0 b) n) := by
 induction d with
|zero =>
  intro i hd hi
  have e : i = n := by omega
  subst e
  refine Ev.step (f := fun _ => some (dotN (at0 a) (at0 b) i)) (fun k => ?_) (Ev.now _)
  simp only [impl_DotOf.l0]
  rw [if_neg (by omega)]
|succ d ih =>
  intro i hd hi
  have h1 := dotN_bound (at0 a) (at0 b) 1099511627776 i fun j hj => hs j (by omega)
  have h2 := hs i (by omega)
  have h3 : i * 1099511627776 ≤ 1000 * 1099511627776 := Nat.mul_le_mul_right _ (by omega)
  refine Ev.step (f := fun k => impl_DotOf.l0 k a b (dotN (at0 a) (at0 b) (i + 1)) (n : Int) ((i + 1 : Nat) : Int)) (fun k => ?_) (ih (i + 1) (by omega) (by omega))
  simp only [impl_DotOf.l0]
  rw [if_pos (by omega), if_pos (by omega), if_pos (by omega), if_pos (by omega), at0_rd, at0_rd, wrap_id (x := (i : Int) + 1) (by omega) (by omega), wrap_id (x := at0 a i * at0 b i) (by omega) (by omega), wrap_id (by omega) (by omega)]
  rfl
theorem dotI_ev (a b : List Int) (n : Nat) (ha : a.length = n) (hb : b.length = n) (hn : n ≤ 1000) (hs : ∀ j, j < n → (at0 a j * at0 b j).natAbs ≤ 1099511627776) : Ev (fun k => impl_DotOf.f k a b) (dotN (at0 a) (at0 b) n) := by
 unfold impl_DotOf.f
 have e : mn (a.length : Int) (b.length : Int) = (n : Int) := by rw [ha, hb]; unfold mn; split <;> rfl
 rw [e]
 exact dotI_l0 a b n ha hb hn hs n 0 (by omega) (by omega)
theorem nullI_l2 (row : List Int) (n : Nat) (c : Int) (bg : List Bool) (f : Nat) (L : List (List Int × Nat)) (r : List Int) {B : Nat} {D : Int} (hB : B ≤ 46080) (hn : n ≤ 1000) (hl : L.length ≤ 1000) (hD : 0 < D) (hL : ∀ p ∈ L, NvOk n B D p) (hc : 0 < c) (hcD : c ∣ D) (hpc : ∀ p ∈ L, at0 p.1 p.2 ∣ c) (hcs : c ≤ 46080) (hf : f < n)
  (v0 : List Int) (hend : ∀ v, v = L.foldl (nvStep c f) v0 → Ev (fun k => (impl_DotOf.f k v row).bind fun t => if t = 0 then impl_NullVector.l1 k row (n : Int) (L.map (·.1)) c bg (n : Int) ((f + 1 : Nat) : Int) else some v) r) (d : Nat) : ∀ (i : Nat) (v : List Int), L.length - i = d → i ≤ L.length → v.length = n → (L.drop i).foldl (nvStep c f) v = L.foldl (nvStep c f) v0 →
  Ev (fun k => impl_NullVector.l2 k row (n : Int) (L.map (·.1)) c bg (f : Int) v (n : Int) (f : Int) (L.map (·.1)) (L.length : Int) (i : Int)) r := by
 induction d with
|zero =>
  intro i v hd hi hv hq
  rw [List.drop_eq_nil_of_le (by omega)] at hq
  refine Ev.step (fun k => ?_) (hend v hq)
  simp only [impl_NullVector.l2]
  rw [if_neg (by omega), wrap_id (by omega) (by omega)]
  rfl
|succ d ih =>
  intro i v hd hi hv hq
  have h : i < L.length := by omega
  have hpm := List.getElem_mem h
  have hp := hL _ hpm
  have h1 := hp.len;have h2 := hp.col;have h3 := hp.ld;have h4 := hp.pos
  have hlead := leadI_ev L[i].1 (by omega)
  rw [if_pos (by omega), h3] at hlead
  have hrow : rd_L1 (L.map (·.1)) (i : Int) = L[i].1 := by
   rw [rdL_nat _ i (by simpa using h)]
   simp
  have hqt := hp.quot hD hc hcD (hpc _ hpm) f hf
  have hqp := hp.quot hD hc hcD (hpc _ hpm) L[i].2 h2
  have hdv : c / at0 L[i].1 L[i].2 * at0 L[i].1 L[i].2 = c := Int.ediv_mul_cancel (hpc _ hpm)
  have hcq : 0 ≤ c / at0 L[i].1 L[i].2 := Int.ediv_nonneg (by omega) (by omega)
  have hcq2 : c / at0 L[i].1 L[i].2 ≤ c := Int.ediv_le_self _ (by omega)
  obtain ⟨e0, he0, _, heb⟩ := hp.ex
  have hxf : (at0 L[i].1 f).natAbs ≤ 46080 := by
   have := heb f hf
   rw [Int.natAbs_mul] at this
   have h5 : 1 * (at0 L[i].1 f).natAbs ≤ e0.natAbs * (at0 L[i].1 f).natAbs := Nat.mul_le_mul_right _ (by omega)
   omega
  rw [List.drop_eq_getElem_cons h, List.foldl_cons] at hq
  refine Ev.step (f := fun k => (impl_lead.f k L[i].1).bind fun t => if 0 ≤ (f : Int) then (if (f : Int) < (L[i].1.length : Int) then (if 0 ≤ t then (if t < (L[i].1.length : Int) then (if (rd L[i].1 t) = 0 then none else (if t < (v.length : Int) then impl_NullVector.l2 k row (n : Int) (L.map (·.1)) c bg (f : Int) (v.set t.toNat (wrap64 ((wrap64 (-(rd L[i].1 (f : Int)))) * (wrap64 (Int.tdiv c (rd L[i].1 t)))))) (n : Int) (f : Int) (L.map (·.1)) (L.length : Int) ((i + 1 : Nat) : Int) else none)) else none) else none) else none) else none) (fun k => ?_) (Ev.bind hlead ?_)
  ·simp only [impl_NullVector.l2]
   rw [if_pos (by omega), if_pos (by omega), if_pos (by simpa using h), hrow, wrap_id (x := (i : Int) + 1) (by omega) (by omega)]
   rfl
  ·have e1 : wrap64 ((wrap64 (-(at0 L[i].1 f))) * (wrap64 (Int.tdiv c (at0 L[i].1 L[i].2)))) = -(at0 L[i].1 f) * (c / at0 L[i].1 L[i].2) := by
    rw [Int.tdiv_eq_ediv_of_nonneg (by omega), wrap_id (x := -(at0 L[i].1 f)) (by omega) (by omega), wrap_id (x := c / at0 L[i].1 L[i].2) (by omega) (by omega)]
    rw [show -(at0 L[i].1 f) * (c / at0 L[i].1 L[i].2) = -(c / at0 L[i].1 L[i].2 * at0 L[i].1 f) by rw [Int.neg_mul, Int.mul_comm]]
    exact wrap_id (by omega) (by omega)
   simp only [if_pos (show (0 : Int) ≤ (f : Int) by omega), if_pos (show (f : Int) < (L[i].1.length : Int) by omega), if_pos (show (0 : Int) ≤ (L[i].2 : Int) by omega), if_pos (show (L[i].2 : Int) < (L[i].1.length : Int) by omega), at0_rd, if_neg (show ¬ at0 L[i].1 L[i].2 = 0 by omega), if_pos (show (L[i].2 : Int) < (v.length : Int) by omega), Int.toNat_natCast, e1]
   exact ih (i + 1) _ (by omega) (by omega) (by simpa using hv) hq
def nvFrom (n : Nat) (c : Int) (L : List (List Int × Nat)) (row : List Int) : Nat → Nat → List Int
 | 0, _ => []
 | d + 1, f => if f ∈ L.map (·.2) then nvFrom n c L row d (f + 1) else if dotN (at0 (nvOf n c f L)) (at0 row) n = 0 then nvFrom n c L row d (f + 1) else nvOf n c f L
structure NvAll (n B : Nat) (D c : Int) (L : List (List Int × Nat)) (row : List Int) : Prop where
 hB : B ≤ 46080
 hn : n ≤ 1000
 hl : L.length ≤ 1000
 hD : 0 < D
 hL : ∀ p ∈ L, NvOk n B D p
 hc : 0 < c
 hcD : c ∣ D
 hpc : ∀ p ∈ L, at0 p.1 p.2 ∣ c
 hcs : c ≤ B
 hr : row.length = n
 hrs : ∀ j, (at0 row j).natAbs ≤ 1000
theorem nv_small {n B : Nat} {D c : Int} {L : List (List Int × Nat)} {row : List Int} (h : NvAll n B D c L row) (f : Nat) (hf : f < n) : (nvOf n c f L).length = n ∧ ∀ j, (at0 (nvOf n c f L) j).natAbs ≤ B := by
 refine ⟨by unfold nvOf;rw [nvStep_len];simp, ?_⟩
 unfold nvOf
 refine nv_at c f L _ B (fun p hp => ⟨by simpa using (h.hL p hp).col, (h.hL p hp).quot h.hD h.hc h.hcD (h.hpc p hp) f hf⟩) fun j => ?_
 have h1 := h.hc;have h2 := h.hcs
 rw [at0_set _ f c (by simpa using hf), at0_rep]
 split
 ·omega
 ·exact Nat.zero_le _
theorem nv_dotI {n B : Nat} {D c : Int} {L : List (List Int × Nat)} {row : List Int} (h : NvAll n B D c L row) (f : Nat) (hf : f < n) : ∀ j, j < n → (at0 (nvOf n c f L) j * at0 row j).natAbs ≤ 1099511627776 := by
 intro j _
 have h1 := (nv_small h f hf).2 j
 have h2 := h.hrs j
 have h3 := h.hB
 rw [Int.natAbs_mul]
 exact Nat.le_trans (Nat.mul_le_mul (Nat.le_trans h1 h3) h2) (by omega)
theorem nullI_l1 {n B : Nat} {D c : Int} {L : List (List Int × Nat)} {row : List Int} (h : NvAll n B D c L row) (bg : List Bool) (hbl : bg.length = n) (hbg : ∀ j, j < n → bg.getD j false = decide (j ∈ L.map (·.2))) (d : Nat) : ∀ f : Nat, n - f = d → f ≤ n → Ev (fun k => impl_NullVector.l1 k row (n : Int) (L.map (·.1)) c bg (n : Int) (f : Int)) (nvFrom n c L row d f) := by
 have hn := h.hn
 induction d with
|zero =>
  intro f hd hf
  refine Ev.step (f := fun _ => some []) (fun k => ?_) (Ev.now _)
  simp only [impl_NullVector.l1]
  rw [if_neg (by omega)]
|succ d ih =>
  intro f hd hf
  have hfn : f < n := by omega
  have hrd : rdOf false bg (f : Int) = decide (f ∈ L.map (·.2)) := by
   unfold rdOf
   rw [Int.toNat_natCast]
   exact hbg f hfn
  by_cases hm : f ∈ L.map (·.2)
  ·unfold nvFrom
   rw [if_pos hm]
   refine Ev.step (fun k => ?_) (ih (f + 1) (by omega) (by omega))
   simp only [impl_NullVector.l1]
   rw [if_pos (by omega), if_pos (by omega), if_pos (by omega), hrd, decide_eq_true hm, if_pos rfl, wrap_id (by omega) (by omega)]
   rfl
  ·unfold nvFrom
   rw [if_neg hm]
   have hs := nv_small h f hfn
   have hl2 := nullI_l2 row n c bg f L (if dotN (at0 (nvOf n c f L)) (at0 row) n = 0 then nvFrom n c L row d (f + 1) else nvOf n c f L) h.hB hn h.hl h.hD h.hL h.hc h.hcD h.hpc (by have := h.hcs;have := h.hB;omega) hfn ((List.replicate n 0).set f c) (fun v hv => ?_) L.length 0 ((List.replicate n 0).set f c) (by omega) (by omega) (by simp) (by rw [List.drop_zero])
   ·refine Ev.step (fun k => ?_) hl2
    simp only [impl_NullVector.l1]
    rw [if_pos (by omega), if_pos (by omega), if_pos (by omega), hrd, decide_eq_false hm, if_neg (by decide), if_pos (by omega), if_pos (by rw [Int.toNat_natCast];omega)]
    simp only [Option.bind_some, Int.toNat_natCast, List.length_replicate, if_pos (show (f : Int) < (n : Int) by omega), List.length_map]
    rfl
   ·have e : v = nvOf n c f L := hv
    subst e
    refine Ev.bind (dotI_ev _ row n hs.1 h.hr hn (nv_dotI h f hfn)) ?_
    by_cases h0 : dotN (at0 (nvOf n c f L)) (at0 row) n = 0
    ·simp only [if_pos h0]
     exact ih (f + 1) (by omega) (by omega)
    ·simp only [if_neg h0]
     exact Ev.now _
def bgStep (b : List Bool) (p : List Int × Nat) : List Bool := b.set p.2 true
theorem bg_len : ∀ (L : List (List Int × Nat)) (b : List Bool), (L.foldl bgStep b).length = b.length
 | [], _ => rfl
 | p :: L, b => by
  rw [List.foldl_cons, bg_len L]
  simp [bgStep]
theorem bg_at : ∀ (L : List (List Int × Nat)) (b : List Bool) (j : Nat), j < b.length → (L.foldl bgStep b).getD j false = (b.getD j false || decide (j ∈ L.map (·.2)))
 | [], b, j, _ => by simp
 | p :: L, b, j, hj => by
  rw [List.foldl_cons, bg_at L _ j (by simpa [bgStep] using hj)]
  unfold bgStep
  rw [List.getD_eq_getElem?_getD, List.getElem?_set, List.getD_eq_getElem?_getD]
  by_cases e : p.2 = j
  ·rw [if_pos e, if_pos (by omega)]
   simp [e]
  ·rw [if_neg e]
   have : (j ∈ (p :: L).map (·.2)) ↔ (j ∈ L.map (·.2)) := by
    rw [List.map_cons, List.mem_cons]
    exact ⟨fun h => h.resolve_left fun h => e h.symm, Or.inr⟩
   rw [decide_eq_decide.2 this]
theorem nullI_l0 (row : List Int) (n B : Nat) (D : Int) (L : List (List Int × Nat)) (r : List Int) (hB : B ≤ 46080) (hn : n ≤ 1000) (hl : L.length ≤ 1000) (hD : 0 < D) (hDB : D ≤ 46080) (hL : ∀ p ∈ L, NvOk n B D p) (hend : Ev (fun k => impl_NullVector.l1 k row (n : Int) (L.map (·.1)) (L.foldl cmS 1) (L.foldl bgStep (List.replicate n false)) (n : Int) 0) r) (d : Nat) :
  ∀ (i : Nat) (c : Int) (b : List Bool), L.length - i = d → i ≤ L.length → b.length = n → 0 < c → c ∣ D → (L.drop i).foldl cmS c = L.foldl cmS 1 → (L.drop i).foldl bgStep b = L.foldl bgStep (List.replicate n false) → Ev (fun k => impl_NullVector.l0 k row (n : Int) (L.map (·.1)) c b (L.map (·.1)) (L.length : Int) (i : Int)) r := by
 induction d with
|zero =>
  intro i c b hd hi hb hc hcD h1 h2
  rw [List.drop_eq_nil_of_le (by omega)] at h1 h2
  rw [show c = L.foldl cmS 1 from h1, show b = L.foldl bgStep (List.replicate n false) from h2]
  refine Ev.step (fun k => ?_) hend
  simp only [impl_NullVector.l0]
  rw [if_neg (by omega)]
|succ d ih =>
  intro i c b hd hi hb hc hcD h1 h2
  have h : i < L.length := by omega
  have hpm := List.getElem_mem h
  have hp := hL _ hpm
  have k1 := hp.len;have k2 := hp.col;have k3 := hp.ld;have k4 := hp.pos
  have hlead := leadI_ev L[i].1 (by omega)
  rw [if_pos (by omega), k3] at hlead
  have hrow : rd_L1 (L.map (·.1)) (i : Int) = L[i].1 := by
   rw [rdL_nat _ i (by simpa using h)]
   simp
  have hcl : c ≤ D := Int.le_of_dvd hD hcD
  have hpl : at0 L[i].1 L[i].2 ≤ D := Int.le_of_dvd hD hp.dvd
  obtain ⟨m1, m2, m3, m4⟩ := cmS_ok D c L[i] hc k4 hcD hp.dvd
  have hml : cmS c L[i] ≤ D := Int.le_of_dvd hD m2
  have hg := gcdI_ev c (at0 L[i].1 L[i].2) (by omega) (by omega) (by omega) (by omega)
  have hgp : 0 < Int.gcd c (at0 L[i].1 L[i].2) := by
   rcases Nat.eq_zero_or_pos (Int.gcd c (at0 L[i].1 L[i].2)) with h|h
   ·have := (Int.gcd_eq_zero_iff.1 h).1
    omega
   ·exact h
  have hq0 : 0 ≤ c / ((Int.gcd c (at0 L[i].1 L[i].2) : Nat) : Int) := Int.ediv_nonneg (by omega) (by omega)
  have hq1 : c / ((Int.gcd c (at0 L[i].1 L[i].2) : Nat) : Int) ≤ c := Int.ediv_le_self _ (by omega)
  rw [List.drop_eq_getElem_cons h, List.foldl_cons] at h1 h2
  refine Ev.step (f := fun k => (impl_lead.f k L[i].1).bind fun t => if 0 ≤ t then (if t < (b.length : Int) then (if t < (L[i].1.length : Int) then ((impl_gcd.f k c (rd L[i].1 t)).bind fun g => if g = 0 then none else impl_NullVector.l0 k row (n : Int) (L.map (·.1)) (wrap64 ((wrap64 (Int.tdiv c g)) * (rd L[i].1 t))) (b.set t.toNat true) (L.map (·.1)) (L.length : Int) ((i + 1 : Nat) : Int)) else none) else none) else none) (fun k => ?_) (Ev.bind hlead ?_)
  ·simp only [impl_NullVector.l0]
   rw [if_pos (by omega), if_pos (by omega), if_pos (by simpa using h), hrow, wrap_id (x := (i : Int) + 1) (by omega) (by omega)]
   rfl
  ·simp only [if_pos (show (0 : Int) ≤ (L[i].2 : Int) by omega), if_pos (show (L[i].2 : Int) < (L[i].1.length : Int) by omega), at0_rd, if_pos (show (L[i].2 : Int) < (b.length : Int) by omega), Int.toNat_natCast]
   refine Ev.bind hg ?_
   have e1 : wrap64 (wrap64 (Int.tdiv c ((Int.gcd c (at0 L[i].1 L[i].2) : Nat) : Int)) * at0 L[i].1 L[i].2) = cmS c L[i] := by
    rw [Int.tdiv_eq_ediv_of_nonneg (by omega), wrap_id (x := c / _) (by omega) (by omega)]
    exact wrap_id (show (-9223372036854775808 : Int) ≤ cmS c L[i] by omega) (show cmS c L[i] < 9223372036854775808 by omega)
   simp only [if_neg (show ¬ ((Int.gcd c (at0 L[i].1 L[i].2) : Nat) : Int) = 0 by omega), e1]
   exact ih (i + 1) _ _ (by omega) (by omega) (by simpa using hb) m1 m2 h1 h2
theorem dotS_l0 (a b : List Int) (n : Nat) (ha : a.length = n) (hb : b.length = n) (hn : n ≤ 1000) (hs : ∀ j, j < n → (at0 a j * at0 b j).natAbs ≤ 1099511627776) (d : Nat) : ∀ i : Nat, n - i = d → i ≤ n → Ev (fun k => spec_DotOf.l0 k a b (dotN (at0 a) (at0 b) i) (i : Int)) (dotN (at0 a) (at0 b) n) := by
 induction d with
|zero =>
  intro i hd hi
  have e : i = n := by omega
  subst e
  refine Ev.step (f := fun _ => some (dotN (at0 a) (at0 b) i)) (fun k => ?_) (Ev.now _)
  simp only [spec_DotOf.l0]
  rw [if_neg (by omega)]
|succ d ih =>
  intro i hd hi
  have h1 := dotN_bound (at0 a) (at0 b) 1099511627776 i fun j hj => hs j (by omega)
  have h2 := hs i (by omega)
  have h3 : i * 1099511627776 ≤ 1000 * 1099511627776 := Nat.mul_le_mul_right _ (by omega)
  refine Ev.step (f := fun k => spec_DotOf.l0 k a b (dotN (at0 a) (at0 b) (i + 1)) ((i + 1 : Nat) : Int)) (fun k => ?_) (ih (i + 1) (by omega) (by omega))
  simp only [spec_DotOf.l0]
  rw [if_pos (by omega), if_pos (by omega), if_pos (by omega), at0_rd, at0_rd, wrap_id (x := (i : Int) + 1) (by omega) (by omega), wrap_id (x := at0 a i * at0 b i) (by omega) (by omega), wrap_id (by omega) (by omega)]
  rfl
theorem dotS_ev (a b : List Int) (n : Nat) (ha : a.length = n) (hb : b.length = n) (hn : n ≤ 1000) (hs : ∀ j, j < n → (at0 a j * at0 b j).natAbs ≤ 1099511627776) : Ev (fun k => spec_DotOf.f k a b) (dotN (at0 a) (at0 b) n) := by
 unfold spec_DotOf.f
 exact dotS_l0 a b n ha hb hn hs n 0 (by omega) (by omega)
theorem nullS_l2 {n B : Nat} {D c : Int} {L : List (List Int × Nat)} {row : List Int} (h : NvAll n B D c L row) (f : Nat) (hf : f < n) (d : Nat) : ∀ (i : Nat) (v : List Int), L.length - i = d → i ≤ L.length → v.length = n → Ev (fun k => spec_l5Null.l2 k (L.map (·.1)) (f : Int) c v (i : Int)) ((L.drop i).foldl (nvStep c f) v) := by
 have hn := h.hn;have hl := h.hl;have hB := h.hB;have hc := h.hc;have hcs := h.hcs
 induction d with
|zero =>
  intro i v hd hi hv
  rw [List.drop_eq_nil_of_le (by omega)]
  refine Ev.step (f := fun _ => some v) (fun k => ?_) (Ev.now v)
  simp only [spec_l5Null.l2]
  rw [if_neg (by rw [List.length_map];omega)]
|succ d ih =>
  intro i v hd hi hv
  have hi2 : i < L.length := by omega
  have hpm := List.getElem_mem hi2
  have hp := h.hL _ hpm
  have h1 := hp.len;have h2 := hp.col;have h3 := hp.ld;have h4 := hp.pos
  have hlead := leadS_ev L[i].1 (by omega)
  rw [h3] at hlead
  have hrow : rd_L1 (L.map (·.1)) (i : Int) = L[i].1 := by
   rw [rdL_nat _ i (by simpa using hi2)]
   simp
  have hqt := hp.quot h.hD h.hc h.hcD (h.hpc _ hpm) f hf
  have hcq : 0 ≤ c / at0 L[i].1 L[i].2 := Int.ediv_nonneg (by omega) (by omega)
  have hcq2 : c / at0 L[i].1 L[i].2 ≤ c := Int.ediv_le_self _ (by omega)
  rw [List.drop_eq_getElem_cons hi2, List.foldl_cons]
  refine Ev.step (f := fun k => (spec_l5Lead.f k L[i].1).bind fun t => if 0 ≤ t then (if t < (L[i].1.length : Int) then (if (rd L[i].1 t) = 0 then none else (if 0 ≤ (f : Int) then (if (f : Int) < (L[i].1.length : Int) then (if t < (v.length : Int) then spec_l5Null.l2 k (L.map (·.1)) (f : Int) c (v.set t.toNat (wrap64 ((wrap64 (-(wrap64 (Int.tdiv c (rd L[i].1 t))))) * (rd L[i].1 (f : Int))))) ((i + 1 : Nat) : Int) else none) else none) else none)) else none) else none) (fun k => ?_) (Ev.bind hlead ?_)
  ·simp only [spec_l5Null.l2]
   rw [if_pos (by rw [List.length_map];omega), if_pos (by omega), hrow, wrap_id (x := (i : Int) + 1) (by omega) (by omega)]
   rfl
  ·have e1 : wrap64 ((wrap64 (-(wrap64 (Int.tdiv c (at0 L[i].1 L[i].2))))) * at0 L[i].1 f) = -(at0 L[i].1 f) * (c / at0 L[i].1 L[i].2) := by
    rw [Int.tdiv_eq_ediv_of_nonneg (by omega), wrap_id (x := c / at0 L[i].1 L[i].2) (by omega) (by omega), wrap_id (x := -(c / at0 L[i].1 L[i].2)) (by omega) (by omega)]
    rw [show -(at0 L[i].1 f) * (c / at0 L[i].1 L[i].2) = -(c / at0 L[i].1 L[i].2 * at0 L[i].1 f) by rw [Int.neg_mul, Int.mul_comm], Int.neg_mul]
    exact wrap_id (by omega) (by omega)
   simp only [if_pos (show (0 : Int) ≤ (f : Int) by omega), if_pos (show (f : Int) < (L[i].1.length : Int) by omega), if_pos (show (0 : Int) ≤ (L[i].2 : Int) by omega), if_pos (show (L[i].2 : Int) < (L[i].1.length : Int) by omega), at0_rd, if_neg (show ¬ at0 L[i].1 L[i].2 = 0 by omega), if_pos (show (L[i].2 : Int) < (v.length : Int) by omega), Int.toNat_natCast, e1]
   exact ih (i + 1) _ (by omega) (by omega) (by simpa using hv)
theorem nullS_l1 {n B : Nat} {D c : Int} {L : List (List Int × Nat)} {row : List Int} (h : NvAll n B D c L row) (f : Nat) (hf : f < n) (d : Nat) : ∀ (i : Nat), n - i = d → i ≤ n → Ev (fun k => spec_l5Null.l1 k (L.map (·.1)) (n : Int) (f : Int) c (List.replicate i 0) (i : Int)) (nvOf n c f L) := by
 have hn := h.hn
 induction d with
|zero =>
  intro i hd hi
  have e : i = n := by omega
  subst e
  have hl2 := nullS_l2 h f hf L.length 0 ((List.replicate i 0).set f c) (by omega) (by omega) (by simp)
  refine Ev.step (fun k => ?_) hl2
  simp only [spec_l5Null.l1]
  rw [if_neg (by omega), if_pos (by omega), if_pos (by rw [List.length_replicate];omega), Int.toNat_natCast]
  rfl
|succ d ih =>
  intro i hd hi
  refine Ev.step (f := fun k => spec_l5Null.l1 k (L.map (·.1)) (n : Int) (f : Int) c (List.replicate (i + 1) 0) ((i + 1 : Nat) : Int)) (fun k => ?_) (ih (i + 1) (by omega) (by omega))
  simp only [spec_l5Null.l1]
  rw [if_pos (by omega), if_pos (by rw [List.length_replicate];omega), wrap_id (by omega) (by omega), List.replicate_succ']
  rfl
theorem nullS_l0 {n B : Nat} {D c : Int} {L : List (List Int × Nat)} {row : List Int} (h : NvAll n B D c L row) (hc0 : c = L.foldl cmS 1) (f : Nat) (hf : f < n) (d : Nat) : ∀ (i : Nat) (c0 : Int), L.length - i = d → i ≤ L.length → 0 < c0 → c0 ∣ c → (L.drop i).foldl cmS c0 = c → Ev (fun k => spec_l5Null.l0 k (L.map (·.1)) (n : Int) (f : Int) c0 (i : Int)) (nvOf n c f L) := by
 have hn := h.hn;have hl := h.hl;have hB := h.hB;have hc := h.hc;have hcs := h.hcs
 induction d with
|zero =>
  intro i c0 hd hi hc1 hcD h1
  rw [List.drop_eq_nil_of_le (by omega)] at h1
  obtain rfl : c0 = c := h1
  refine Ev.step (fun k => ?_) (nullS_l1 h f hf n 0 (by omega) (by omega))
  simp only [spec_l5Null.l0]
  rw [if_neg (by rw [List.length_map];omega)]
  rfl
|succ d ih =>
  intro i c0 hd hi hc1 hcD h1
  have hi2 : i < L.length := by omega
  have hpm := List.getElem_mem hi2
  have hp := h.hL _ hpm
  have k1 := hp.len;have k2 := hp.col;have k3 := hp.ld;have k4 := hp.pos
  have hlead := leadS_ev L[i].1 (by omega)
  rw [k3] at hlead
  have hrow : rd_L1 (L.map (·.1)) (i : Int) = L[i].1 := by
   rw [rdL_nat _ i (by simpa using hi2)]
   simp
  have hcl : c0 ≤ c := Int.le_of_dvd hc hcD
  have hpl : at0 L[i].1 L[i].2 ≤ c := Int.le_of_dvd hc (h.hpc _ hpm)
  obtain ⟨m1, m2, m3, m4⟩ := cmS_ok c c0 L[i] hc1 k4 hcD (h.hpc _ hpm)
  have hml : cmS c0 L[i] ≤ c := Int.le_of_dvd hc m2
  have hg := gcdS_ev c0 (at0 L[i].1 L[i].2) (by omega) (by omega) (by omega) (by omega)
  have hgp : 0 < Int.gcd c0 (at0 L[i].1 L[i].2) := by
   rcases Nat.eq_zero_or_pos (Int.gcd c0 (at0 L[i].1 L[i].2)) with h|h
   ·have := (Int.gcd_eq_zero_iff.1 h).1
    omega
   ·exact h
  have hq0 : 0 ≤ c0 / ((Int.gcd c0 (at0 L[i].1 L[i].2) : Nat) : Int) := Int.ediv_nonneg (by omega) (by omega)
  have hq1 : c0 / ((Int.gcd c0 (at0 L[i].1 L[i].2) : Nat) : Int) ≤ c0 := Int.ediv_le_self _ (by omega)
  rw [List.drop_eq_getElem_cons hi2, List.foldl_cons] at h1
  refine Ev.step (f := fun k => (spec_l5Lead.f k L[i].1).bind fun t => if 0 ≤ t then (if t < (L[i].1.length : Int) then ((spec_l4Gcd.f k c0 (rd L[i].1 t)).bind fun g => if g = 0 then none else spec_l5Null.l0 k (L.map (·.1)) (n : Int) (f : Int) (wrap64 ((wrap64 (Int.tdiv c0 g)) * (rd L[i].1 t))) ((i + 1 : Nat) : Int)) else none) else none) (fun k => ?_) (Ev.bind hlead ?_)
  ·simp only [spec_l5Null.l0]
   rw [if_pos (by rw [List.length_map];omega), if_pos (by omega), hrow, wrap_id (x := (i : Int) + 1) (by omega) (by omega)]
   rfl
  ·simp only [if_pos (show (0 : Int) ≤ (L[i].2 : Int) by omega), if_pos (show (L[i].2 : Int) < (L[i].1.length : Int) by omega), at0_rd]
   refine Ev.bind hg ?_
   have e1 : wrap64 (wrap64 (Int.tdiv c0 ((Int.gcd c0 (at0 L[i].1 L[i].2) : Nat) : Int)) * at0 L[i].1 L[i].2) = cmS c0 L[i] := by
    rw [Int.tdiv_eq_ediv_of_nonneg (by omega), wrap_id (x := c0 / _) (by omega) (by omega)]
    exact wrap_id (show (-9223372036854775808 : Int) ≤ cmS c0 L[i] by omega) (show cmS c0 L[i] < 9223372036854775808 by omega)
   simp only [if_neg (show ¬ ((Int.gcd c0 (at0 L[i].1 L[i].2) : Nat) : Int) = 0 by omega), e1]
   exact ih (i + 1) _ (by omega) (by omega) m1 m2 h1
theorem nullS_nv {n B : Nat} {D c : Int} {L : List (List Int × Nat)} {row : List Int} (h : NvAll n B D c L row) (hc0 : c = L.foldl cmS 1) (f : Nat) (hf : f < n) : Ev (fun k => spec_l5Null.f k (L.map (·.1)) (n : Int) (f : Int)) (nvOf n c f L) := by
 unfold spec_l5Null.f
 exact nullS_l0 h hc0 f hf L.length 0 1 (by omega) (by omega) (by omega) ⟨c, by omega⟩ (by rw [List.drop_zero, hc0])
theorem nullSV_l1 {n B : Nat} {D c : Int} {L : List (List Int × Nat)} {row : List Int} (h : NvAll n B D c L row) (f : Nat) (hf : f < n) (r : List Int) (hend : Ev (fun k => if f ∈ L.map (·.2) then spec_NullVector.l0 k row (L.map (·.1)) ((f + 1 : Nat) : Int) else (spec_l5Null.f k (L.map (·.1)) (n : Int) (f : Int)).bind fun v => (spec_DotOf.f k v row).bind fun t => if t = 0 then spec_NullVector.l0 k row (L.map (·.1)) ((f + 1 : Nat) : Int) else some v) r) (d : Nat) :
  ∀ (i : Nat) (b : Bool), L.length - i = d → i ≤ L.length → (b = true ∨ f ∈ (L.drop i).map (·.2) ↔ f ∈ L.map (·.2)) → Ev (fun k => spec_NullVector.l1 k row (L.map (·.1)) (f : Int) b (i : Int)) r := by
 have hn := h.hn;have hl := h.hl
 induction d with
|zero =>
  intro i b hd hi hb
  rw [List.drop_eq_nil_of_le (by omega)] at hb
  refine Ev.step (fun k => ?_) hend
  simp only [spec_NullVector.l1]
  rw [if_neg (by rw [List.length_map];omega), h.hr, wrap_id (x := (f : Int) + 1) (by omega) (by omega)]
  have hb2 : b = true ↔ f ∈ L.map (·.2) := by simpa using hb
  by_cases e : b = true
  ·rw [if_pos e, if_pos (hb2.1 e)]
   rfl
  ·rw [if_neg e, if_neg fun h => e (hb2.2 h)]
   rfl
|succ d ih =>
  intro i b hd hi hb
  have hi2 : i < L.length := by omega
  have hpm := List.getElem_mem hi2
  have hp := h.hL _ hpm
  have k1 := hp.len;have k2 := hp.col;have k3 := hp.ld;have k4 := hp.pos
  have hlead := leadS_ev L[i].1 (by omega)
  rw [k3] at hlead
  have hrow : rd_L1 (L.map (·.1)) (i : Int) = L[i].1 := by
   rw [rdL_nat _ i (by simpa using hi2)]
   simp
  rw [List.drop_eq_getElem_cons hi2, List.map_cons, List.mem_cons] at hb
  cases b with
 |true =>
   refine Ev.step (f := fun k => spec_NullVector.l1 k row (L.map (·.1)) (f : Int) true ((i + 1 : Nat) : Int)) (fun k => ?_) (ih (i + 1) true (by omega) (by omega) (by simpa using hb))
   simp only [spec_NullVector.l1]
   rw [if_pos (by rw [List.length_map];omega), if_pos trivial, wrap_id (x := (i : Int) + 1) (by omega) (by omega)]
   rfl
 |false =>
   refine Ev.step (f := fun k => (spec_l5Lead.f k L[i].1).bind fun t => spec_NullVector.l1 k row (L.map (·.1)) (f : Int) (t == (f : Int)) ((i + 1 : Nat) : Int)) (fun k => ?_) (Ev.bind hlead (ih (i + 1) _ (by omega) (by omega) ?_))
   ·simp only [spec_NullVector.l1]
    rw [if_pos (by rw [List.length_map];omega), if_neg (by decide), if_pos (by omega), hrow, wrap_id (x := (i : Int) + 1) (by omega) (by omega)]
    rfl
   ·rw [← hb, beq_iff_eq]
    constructor
    ·rintro (h|h)
     ·exact Or.inr (Or.inl (by omega))
     ·exact Or.inr (Or.inr h)
    ·rintro (h|h|h)
     ·cases h
     ·exact Or.inl (by omega)
     ·exact Or.inr h
theorem nullSV_l0 {n B : Nat} {D c : Int} {L : List (List Int × Nat)} {row : List Int} (h : NvAll n B D c L row) (hc0 : c = L.foldl cmS 1) (d : Nat) : ∀ f : Nat, n - f = d → f ≤ n → Ev (fun k => spec_NullVector.l0 k row (L.map (·.1)) (f : Int)) (nvFrom n c L row d f) := by
 have hn := h.hn;have hl := h.hl;have hr := h.hr
 induction d with
|zero =>
  intro f hd hf
  refine Ev.step (f := fun _ => some []) (fun k => ?_) (Ev.now _)
  simp only [spec_NullVector.l0]
  rw [if_neg (by omega)]
|succ d ih =>
  intro f hd hf
  have hfn : f < n := by omega
  have hs := nv_small h f hfn
  refine Ev.step (f := fun k => spec_NullVector.l1 k row (L.map (·.1)) (f : Int) false ((0 : Nat) : Int)) (fun k => ?_) (nullSV_l1 h f hfn _ ?_ L.length 0 false (by omega) (by omega) (by simp))
  ·simp only [spec_NullVector.l0]
   rw [if_pos (by omega)]
   rfl
  ·unfold nvFrom
   by_cases hm : f ∈ L.map (·.2)
   ·simp only [if_pos hm]
    exact ih (f + 1) (by omega) (by omega)
   ·simp only [if_neg hm]
    refine Ev.bind (nullS_nv h hc0 f hfn) ?_
    refine Ev.bind (dotS_ev _ row n hs.1 h.hr hn (nv_dotI h f hfn)) ?_
    by_cases h0 : dotN (at0 (nvOf n c f L)) (at0 row) n = 0
    ·simp only [if_pos h0]
     exact ih (f + 1) (by omega) (by omega)
    ·simp only [if_neg h0]
     exact Ev.now _
theorem piv_all {S : V → Prop} {n : Nat} {P : List (List Int × Nat)} {Q : List (List Int)} (h : Red S n P Q) (hl : n ≤ P.length) : ∀ j, j < n → j ∈ P.map (·.2) := by
 have e := sorted_sub (P.map (·.2)) (List.range n).reverse h.sorted (by rw [List.pairwise_reverse]; exact List.pairwise_lt_range) (fun k hk => by
  obtain ⟨p, hp, rfl⟩ := List.mem_map.1 hk
  simpa using h.ncol p hp) (by simpa using hl)
 intro j hj
 rw [e]
 simpa using hj
theorem full_span {m : List (List Int)} {row : List Int} {n : Nat} {P : List (List Int × Nat)} {Q : List (List Int)} (h : Red (RowSp m) n P Q) (hP : ∀ p ∈ P, p.1.length = n) (hr : row.length = n) (hl : n ≤ P.length) : Sp (RowSp m) (at0 row) := by
 refine sp_of_res (P := P) (common_ne h.st.piv.2.1) h.st.inP fun j => ?_
 rcases Nat.lt_or_ge j n with hj|hj
 ·obtain ⟨p, hp, e⟩ := List.mem_map.1 (piv_all h hl j hj)
  rw [← e]
  exact res_piv h.st.piv (common P) dvd_common (at0 row) p hp
 ·unfold res
  rw [at0_out (by rw [hr];exact hj), sumOver_zero _ _ fun q hq => by
   rw [show at0 q.1 j = 0 from at0_out (by rw [hP q hq];exact hj)];simp]
  simp
theorem nvFrom_ok (n : Nat) (c : Int) (L : List (List Int × Nat)) (row : List Int) (f0 : Nat) (d : Nat) : ∀ f : Nat, f + d = n → f ≤ f0 → f0 < n → ¬ f0 ∈ L.map (·.2) → dotN (at0 (nvOf n c f0 L)) (at0 row) n ≠ 0 → ∃ g, g < n ∧ ¬ g ∈ L.map (·.2) ∧ dotN (at0 (nvOf n c g L)) (at0 row) n ≠ 0 ∧ nvFrom n c L row d f = nvOf n c g L := by
 induction d with
|zero => intro f h1 h2 h3;omega
|succ d ih =>
  intro f h1 h2 h3 h4 h5
  unfold nvFrom
  by_cases hm : f ∈ L.map (·.2)
  ·rw [if_pos hm]
   refine ih (f + 1) (by omega) ?_ h3 h4 h5
   rcases Nat.lt_or_ge f f0 with h|h
   ·exact h
   ·have : f = f0 := by omega
    subst this
    exact absurd hm h4
  ·rw [if_neg hm]
   by_cases h0 : dotN (at0 (nvOf n c f L)) (at0 row) n = 0
   ·rw [if_pos h0]
    refine ih (f + 1) (by omega) ?_ h3 h4 h5
    rcases Nat.lt_or_ge f f0 with h|h
    ·exact h
    ·have : f = f0 := by omega
     subst this
     exact absurd h0 h5
   ·rw [if_neg h0]
    exact ⟨f, by omega, hm, h0, rfl⟩
structure NullOf (m : List (List Int)) (row v : List Int) : Prop where
 len : v.length = row.length
 zero : ∀ r ∈ m, dotN (at0 v) (at0 r) row.length = 0
 one : dotN (at0 v) (at0 row) row.length ≠ 0
 small : ∀ j, (at0 v j).natAbs ≤ 3840
theorem null_both (m : List (List Int)) (row : List Int) (hm : m.length ≤ 16777216) (hr : ∀ x ∈ m, x.length ≤ 16777216) (hl : row.length ≤ 16777216) : ∃ v : List Int, Ev (fun k => impl_NullVector.f k m row) v ∧ Ev (fun k => spec_NullVector.f k m row) v ∧ v.length ≤ 1000 ∧
  (bothB m row = false → v = []) ∧ (Sp (RowSp m) (at0 row) → v = []) ∧ (bothB m row = true → ¬ Sp (RowSp m) (at0 row) → NullOf m row v ∧ ∃ n : Nat, row.length = n ∧ Okm m n n) := by
 have h1 := implMat_ev m hm hr (row.length : Int)
 have h2 := implMat_ev [row] (by simp) (fun x hx => by rw [List.mem_singleton.1 hx];exact hl) (row.length : Int)
 have s1 := specMat_ev m hm hr (row.length : Int)
 have s2 := specMat_ev [row] (by simp) (fun x hx => by rw [List.mem_singleton.1 hx];exact hl) (row.length : Int)
 have hboth : Ev (fun k => spec_l5Both.f k m row) (bothB m row) := by
  unfold spec_l5Both.f bothB
  refine Ev.bind s1 ?_
  cases isMat m (row.length : Int) with
 |false =>
   simp only [Bool.false_eq_true, if_false, Bool.false_and]
   exact Ev.now _
 |true =>
   simp only [if_true, Bool.true_and]
   exact Ev.bind s2 (Ev.now _)
 have hjI : Ev (fun k => impl_NullVector.j0 k m row (row.length : Int) true) [] := Ev.step (f := fun _ => some []) (fun k => by simp only [impl_NullVector.j0];rw [if_pos trivial]) (Ev.now _)
 have hjS : Ev (fun k => spec_NullVector.j0 k m row true) [] := Ev.step (f := fun _ => some []) (fun k => by simp only [spec_NullVector.j0];rw [if_pos trivial]) (Ev.now _)
 cases hb : bothB m row with
|false =>
  rw [hb] at hboth
  refine ⟨[], ?_, ?_, by simp, by simp, by simp, by simp⟩
  ·unfold impl_NullVector.f
   refine Ev.bind h1 ?_
   cases e1 : isMat m (row.length : Int) with
  |false =>
    simp only [Bool.false_eq_true, if_false]
    exact hjI
  |true =>
    simp only [if_true]
    refine Ev.bind h2 ?_
    have e2 : isMat [row] (row.length : Int) = false := by simpa [bothB, e1] using hb
    rw [e2]
    simp only [Bool.false_eq_true, if_false]
    exact hjI
  ·unfold spec_NullVector.f
   refine Ev.bind hboth ?_
   simp only [Bool.false_eq_true, if_false]
   exact hjS
|true =>
  have hb1 : isMat m (row.length : Int) = true ∧ isMat [row] (row.length : Int) = true := by simpa [bothB] using hb
  obtain ⟨b, bI, bS, bi, _⟩ := span_both m row hm hr hl
  have hbi := bi hb
  have key : ∀ v, Ev (fun k => impl_NullVector.j0 k m row (row.length : Int) b) v → Ev (fun k => spec_NullVector.j0 k m row b) v → Ev (fun k => impl_NullVector.f k m row) v ∧ Ev (fun k => spec_NullVector.f k m row) v := fun v k1 k2 => by
   constructor
   ·unfold impl_NullVector.f
    rw [hb1.1] at h1
    rw [hb1.2] at h2
    refine Ev.bind h1 ?_
    simp only [if_true]
    refine Ev.bind h2 ?_
    simp only [if_true]
    exact Ev.bind bI k1
   ·unfold spec_NullVector.f
    rw [hb] at hboth
    refine Ev.bind hboth ?_
    simp only [if_true]
    exact Ev.bind bS k2
  cases b with
 |true =>
   obtain ⟨k1, k2⟩ := key [] hjI hjS
   exact ⟨[], k1, k2, by simp, by simp, fun _ => rfl, fun _ h => absurd (hbi.1 rfl) h⟩
 |false =>
   have hns : ¬ Sp (RowSp m) (at0 row) := fun h => by have := hbi.2 h;cases this
   obtain ⟨R, hS, hRl, hRr, hT, _⟩ := specRR_ev m (row.length : Int) hm hr
   obtain ⟨n, P, Q, hn, hok, hR, hP, hz, hRe⟩ := hT hb1.1
   obtain ⟨P2, Q2, hR2, hP2, hQ2, hevI⟩ := implRed hok
   have heq : P = P2 := hR.eq hz hR2 (fun v => Iff.rfl) hP hP2
   subst heq
   obtain ⟨n2, hn2, hok2, _⟩ := okm_of_isMat hb1.2
   have e1 : row.length = n := by omega
   have e2 : n2 = n := by omega
   subst e2
   have hlen : P.length < n2 := by
    rcases Nat.lt_or_ge P.length n2 with h|h
    ·exact h
    ·exact absurd (full_span hR hP e1 h) hns
   have hle := hok.le6
   obtain ⟨D, hD, hD2, he⟩ := small_piv5 hR hok.start.1 (Nat.le_refl _) (by omega)
   have hrs := hok2.small row (by simp)
   have hL : ∀ p ∈ P.reverse, NvOk n2 3840 D p := fun p hp => by
    have hp' := List.mem_reverse.1 hp
    obtain ⟨e, k1, k2, k3, _⟩ := he p hp'
    have hpos := hR.pos p hp'
    exact ⟨hP p hp', hR.ncol p hp', ld_eq p.1 p.2 (hR.lead p hp') (by omega), hpos, e, k1, k2, k3⟩
   obtain ⟨c1, c2, _, c4⟩ := cm_ok D P.reverse 1 (fun p hp => ⟨(hL p hp).pos, (hL p hp).dvd⟩) (by omega) ⟨D, by omega⟩
   generalize hcg : P.reverse.foldl cmS 1 = c at c1 c2 c4
   have hall : NvAll n2 3840 D c P.reverse row := ⟨by omega, by omega, by rw [List.length_reverse];omega, hD, hL, c1, c2, c4, by have := Int.le_of_dvd hD c2;omega, e1, fun j => by
    have := hrs j
    have := bnd_le n2 j
    omega⟩
   have hmr : (P.map (·.1)).reverse = P.reverse.map (·.1) := by rw [List.map_reverse]
   rw [hmr] at hevI hRe
   obtain ⟨k1, k2⟩ := key (nvFrom n2 c P.reverse row n2 0) (by
    refine Ev.step (f := fun k => (impl_reduceAny.f k m (n2 : Int)).bind fun t => impl_NullVector.l0 k row (n2 : Int) t 1 (List.replicate n2 false) t (t.length : Int) 0) (fun k => ?_) (Ev.bind hevI ?_)
    ·simp only [impl_NullVector.j0, e1]
     rw [if_neg (by decide)]
     simp only [if_pos (show (0 : Int) ≤ (n2 : Int) by omega), Int.toNat_natCast, if_pos (show n2 ≤ 281474976710656 by omega)]
    ·rw [List.length_map]
     refine nullI_l0 row n2 3840 D P.reverse _ (by omega) (by omega) (by rw [List.length_reverse];omega) hD (by omega) hL ?_ P.reverse.length 0 1 _ (by omega) (by omega) (by simp) (by omega) ⟨D, by omega⟩ (by rw [List.drop_zero]) (by rw [List.drop_zero])
     rw [hcg]
     refine nullI_l1 hall _ (by rw [bg_len];simp) (fun j hj => ?_) n2 0 (by omega) (by omega)
     rw [bg_at _ _ _ (by simpa using hj)]
     simp [List.getD_eq_getElem?_getD, List.getElem?_replicate, hj]) (by
    refine Ev.step (f := fun k => (spec_ReduceRows.f k m (row.length : Int)).bind fun t => spec_NullVector.l0 k row t 0) (fun k => ?_) (Ev.bind hS ?_)
    ·simp only [spec_NullVector.j0]
     rw [if_neg (by decide)]
    ·rw [hRe]
     exact nullSV_l0 hall hcg.symm n2 0 (by omega) (by omega))
   have hnd : (P.reverse.map (·.2)).Nodup := by rw [List.map_reverse];unfold List.Nodup;rw [List.pairwise_reverse];exact hR.st.piv.1.imp fun h => Ne.symm h
   have hcp : ∀ p ∈ P, at0 p.1 p.2 ∣ c := fun p hp => c4 p (List.mem_reverse.2 hp)
   have hdot : ∀ g w, g < n2 → ¬ g ∈ P.reverse.map (·.2) → dotN (at0 (nvOf n2 c g P.reverse)) w n2 = res c P w g := fun g w hg hgm => by
    rw [nv_res n2 c g P.reverse w hnd hg (fun p hp => (hL p hp).col) hgm, res_reverse]
   have hex : ∃ f0, f0 < n2 ∧ ¬ f0 ∈ P.reverse.map (·.2) ∧ dotN (at0 (nvOf n2 c f0 P.reverse)) (at0 row) n2 ≠ 0 := by
    refine Classical.byContradiction fun hno => hns ?_
    refine sp_of_res (P := P) (L := c) (by omega) hR.st.inP fun j => ?_
    rcases Nat.lt_or_ge j n2 with hj|hj
    ·by_cases hjm : j ∈ P.reverse.map (·.2)
     ·obtain ⟨p, hp, e⟩ := List.mem_map.1 hjm
      rw [← e]
      exact res_piv hR.st.piv c hcp (at0 row) p (List.mem_reverse.1 hp)
     ·rw [← hdot j (at0 row) hj hjm]
      exact Classical.byContradiction fun h => hno ⟨j, hj, hjm, h⟩
    ·unfold res
     rw [at0_out (by rw [e1];exact hj), sumOver_zero _ _ fun q hq => by
      rw [show at0 q.1 j = 0 from at0_out (by rw [hP q hq];exact hj)];simp]
     simp
   obtain ⟨f0, q1, q2, q3⟩ := hex
   obtain ⟨g, g1, g2, g3, g4⟩ := nvFrom_ok n2 c P.reverse row f0 n2 0 (by omega) (by omega) q1 q2 q3
   rw [g4] at k1 k2
   have hgs := nv_small hall g g1
   refine ⟨_, k1, k2, by rw [hgs.1];omega, by simp, fun h => absurd h hns, fun _ _ => ⟨⟨by rw [hgs.1, e1], fun r hr => ?_, by rw [e1];exact g3, hgs.2⟩, n2, e1, hok⟩⟩
   rw [e1, hdot g _ g1 g2]
   exact res_span hR.st.piv c hcp (hR.span hz (Sp.of ⟨r, hr, rfl⟩)) g
theorem big_eq (l : List Int) : laws_big.f l = some (decide ((l.length : Int) > 1048576)) := rfl
theorem and255 (x : Int) : 0 ≤ Go.bits .and .i64 x 255 ∧ Go.bits .and .i64 x 255 ≤ 255 := by
 have h : (BitVec.ofInt IntKind.i64.bits x &&& BitVec.ofInt IntKind.i64.bits 255).toNat ≤ 255 := by
  rw [BitVec.toNat_and]
  exact Nat.le_trans Nat.and_le_right (by decide)
 have e : Go.bits .and .i64 x 255 = IntKind.i64.wrap ((BitVec.ofInt IntKind.i64.bits x &&& BitVec.ofInt IntKind.i64.bits 255).toNat : Int) := rfl
 rw [e, Go.IntKind.wrap_i64]
 omega
def Cur (b : List Int) (s : Int) : Prop := 0 ≤ s ∧ s ≤ b.length
theorem l1Byte_ok (b : List Int) (hb : b.length ≤ 1048576) (s h : Int) (hs : Cur b s) : ∃ x s' h', spec_l1Byte.f b s h = some (x, s', h') ∧ 0 ≤ x ∧ x ≤ 255 ∧ Cur b s' := by
 have hs0 := hs.1
 have hs1 := hs.2
 unfold spec_l1Byte.f
 by_cases c : s < (b.length : Int)
 ·rw [if_pos c, if_pos hs.1]
  have hw : wrap64 (s + 1) = s + 1 := wrap_id (by omega) (by omega)
  rw [hw]
  exact ⟨_, _, _, rfl, (and255 _).1, (and255 _).2, ⟨by omega, by omega⟩⟩
 ·rw [if_neg c]
  exact ⟨_, _, _, rfl, (and255 _).1, (and255 _).2, hs⟩
theorem l1Below_ok (b : List Int) (hb : b.length ≤ 1048576) (s h n : Int) (hs : Cur b s) : ∃ x s' h', spec_l1Below.f b s h n = some (x, s', h') ∧ 0 ≤ x ∧ (0 < n → x < n) ∧ Cur b s' := by
 unfold spec_l1Below.f
 by_cases c : n ≤ 0
 ·rw [if_pos c]; exact ⟨0, s, h, rfl, by omega, fun h => by omega, hs⟩
 ·rw [if_neg c]
  by_cases c2 : n ≤ 256
  ·rw [if_pos c2]
   obtain ⟨x, s', h', e, h0, h1, hc⟩ := l1Byte_ok b hb s h hs
   rw [e]
   simp only [Option.bind_some]
   rw [if_neg (by omega), Int.tmod_eq_emod_of_nonneg h0]
   exact ⟨_, _, _, rfl, Int.emod_nonneg _ (by omega), fun h => Int.emod_lt_of_pos _ h, hc⟩
  ·rw [if_neg c2]
   obtain ⟨x, s1, h1, e1, a0, a1, hc1⟩ := l1Byte_ok b hb s h hs
   obtain ⟨y, s2, h2, e2, b0, b1, hc2⟩ := l1Byte_ok b hb s1 h1 hc1
   obtain ⟨z, s3, h3, e3, d0, d1, hc3⟩ := l1Byte_ok b hb s2 h2 hc2
   simp only [e1, e2, e3, Option.bind_some]
   rw [if_neg (by omega), wrap_id (x := x * 65536) (by omega) (by omega), wrap_id (x := y * 256) (by omega) (by omega), wrap_id (x := x * 65536 + y * 256) (by omega) (by omega), wrap_id (x := x * 65536 + y * 256 + z) (by omega) (by omega), Int.tmod_eq_emod_of_nonneg (by omega)]
   exact ⟨_, _, _, rfl, Int.emod_nonneg _ (by omega), fun h => Int.emod_lt_of_pos _ h, hc3⟩
theorem l1New_l0 (l : List Int) (hl : l.length ≤ 1048576) (d : Nat) : ∀ (i : Nat) (h : Int), l.length - i = d → ∃ h', Ev (fun k => spec_l1New.l0 k l h (i : Int)) (l, 0, h') := by
 induction d with
|zero =>
  intro i h hd
  refine ⟨h, Ev.step (f := fun _ => some (l, 0, h)) (fun k => ?_) (Ev.now _)⟩
  simp only [spec_l1New.l0]
  rw [if_neg (by omega)]
|succ d ih =>
  intro i h hd
  by_cases c : (i : Int) < 4000
  ·obtain ⟨h', e⟩ := ih (i + 1) (Go.bits .and .i64 (wrap64 ((wrap64 ((wrap64 (h * 137)) + (wrap64 (rd l (i : Int))))) + 11)) 1073741823) (by omega)
   refine ⟨h', Ev.step (f := fun k => spec_l1New.l0 k l _ ((i + 1 : Nat) : Int)) (fun k => ?_) e⟩
   simp only [spec_l1New.l0]
   rw [if_pos (by omega), if_pos c, if_pos (by omega), wrap_id (x := (i : Int) + 1) (by omega) (by omega)]
   rfl
  ·refine ⟨h, Ev.step (f := fun _ => some (l, 0, h)) (fun k => ?_) (Ev.now _)⟩
   simp only [spec_l1New.l0]
   rw [if_pos (by omega), if_neg c]
theorem l1New_ev (l : List Int) (hl : l.length ≤ 1048576) : ∃ h', Ev (fun k => spec_l1New.f k l) (l, 0, h') := l1New_l0 l hl l.length 0 _ (by omega)
theorem cur0 (l : List Int) : Cur l 0 := ⟨by omega, by omega⟩
theorem l1Once_ok (b : List Int) (hb : b.length ≤ 1048576) (s h n : Int) (hs : Cur b s) : ∃ (t : Bool) (s' h' : Int), spec_l1Once.f b s h n = some (t, s', h') ∧ Cur b s' := by
 obtain ⟨x, s', h', e, _, _, hc⟩ := l1Below_ok b hb s h n hs
 unfold spec_l1Once.f
 rw [e]
 exact ⟨_, s', h', rfl, hc⟩
theorem l1Int_ok (b : List Int) (hb : b.length ≤ 1048576) (s h : Int) (l : List Int) (hl : 0 < l.length) (hs : Cur b s) : ∃ x s' h', spec_l1Int.f b s h l = some (x, s', h') ∧ x ∈ l ∧ Cur b s' := by
 obtain ⟨x, s', h', e, h0, h1, hc⟩ := l1Below_ok b hb s h (l.length : Int) hs
 have h1 := h1 (by omega)
 unfold spec_l1Int.f
 rw [e]
 simp only [Option.bind_some]
 rw [if_pos h0, if_pos h1]
 refine ⟨_, s', h', rfl, ?_, hc⟩
 have hx : x.toNat < l.length := by omega
 have := rd_nat l x.toNat hx
 rw [Int.toNat_of_nonneg h0] at this
 rw [this]
 exact List.getElem_mem hx
theorem l5Row_l0 (b : List Int) (hb : b.length ≤ 1048576) (n : Nat) (hn : n ≤ 1000) (d : Nat) : ∀ (i : Nat) (r : List Int) (s h : Int), n - i = d → i ≤ n → r.length = i → Cur b s → ∃ (r' : List Int) (s' h' : Int), Ev (fun k => spec_l5Row.l0 k (n : Int) r (i : Int) b s h) (r', s', h') ∧ r'.length = n ∧ Cur b s' := by
 induction d with
|zero =>
  intro i r s h hd hi hr hs
  refine ⟨r, s, h, Ev.step (f := fun _ => some (r, s, h)) (fun k => ?_) (Ev.now _), by omega, hs⟩
  simp only [spec_l5Row.l0]
  rw [if_neg (by omega)]
|succ d ih =>
  intro i r s h hd hi hr hs
  obtain ⟨x, s1, h1, e1, _, c1⟩ := l1Int_ok b hb s h [0, 0, 1, 1, 1, (-1), 2, (-2)] (by simp) hs
  obtain ⟨r', s', h', ev, hl, hc⟩ := ih (i + 1) (r ++ [x]) s1 h1 (by omega) (by omega) (by simp [hr]) c1
  refine ⟨r', s', h', Ev.step (f := fun k => spec_l5Row.l0 k (n : Int) (r ++ [x]) ((i + 1 : Nat) : Int) b s1 h1) (fun k => ?_) ev, hl, hc⟩
  simp only [spec_l5Row.l0]
  rw [if_pos (by omega), e1]
  simp only [Option.bind_some]
  rw [if_pos (by omega), wrap_id (by omega) (by omega)]
  rfl
theorem l5Row_ev (b : List Int) (hb : b.length ≤ 1048576) (n : Nat) (hn : n ≤ 1000) (s h : Int) (hs : Cur b s) : ∃ (r' : List Int) (s' h' : Int), Ev (fun k => spec_l5Row.f k b s h (n : Int)) (r', s', h') ∧ r'.length = n ∧ Cur b s' := by
 unfold spec_l5Row.f
 exact l5Row_l0 b hb n hn n 0 [] s h (by omega) (by omega) rfl hs
theorem l5Draw_l0 (b : List Int) (hb : b.length ≤ 1048576) (n : Nat) (hn : n ≤ 1000) (i : Nat) : ∀ (m : List (List Int)) (s h : Int), m.length + i ≤ 1000 → (∀ r ∈ m, r.length = n) → Cur b s → ∃ (m' : List (List Int)) (s' h' : Int), Ev (fun k => spec_l5Draw.l0 k (n : Int) m (i : Int) b s h) (m', s', h') ∧ m'.length = m.length + i ∧ (∀ r ∈ m', r.length = n) ∧ Cur b s' := by
 induction i with
|zero =>
  intro m s h hm hr hs
  refine ⟨m, s, h, Ev.step (f := fun _ => some (m, s, h)) (fun k => ?_) (Ev.now _), by omega, hr, hs⟩
  simp only [spec_l5Draw.l0]
  rw [if_neg (by omega)]
|succ i ih =>
  intro m s h hm hr hs
  obtain ⟨x, s1, h1, e1, hx, c1⟩ := l5Row_ev b hb n hn s h hs
  obtain ⟨m', s', h', ev, hl, hm', hc⟩ := ih (m ++ [x]) s1 h1 (by simp;omega) (fun r hr' => by
   rcases List.mem_append.1 hr' with h|h
   ·exact hr r h
   ·rw [List.mem_singleton.1 h];exact hx) c1
  refine ⟨m', s', h', Ev.step (f := fun k => (spec_l5Row.f k b s h (n : Int)).bind fun bt => spec_l5Draw.l0 k (n : Int) (m ++ [bt.1]) (i : Int) b bt.2.1 bt.2.2) (fun k => ?_) (Ev.bind e1 ev), by rw [hl];simp;omega, hm', hc⟩
  simp only [spec_l5Draw.l0]
  rw [if_pos (by omega), wrap_id (by omega) (by omega)]
  simp only [if_pos (show m.length < 5864062014805 by omega), show ((i + 1 : Nat) : Int) - 1 = (i : Int) by omega]
theorem l5Draw_ev (b : List Int) (hb : b.length ≤ 1048576) (n : Nat) (hn : n ≤ 1000) (s h : Int) (hs : Cur b s) : ∃ (m' : List (List Int)) (s' h' : Int), Ev (fun k => spec_l5Draw.f k b s h (n : Int)) (m', s', h') ∧ m'.length ≤ 6 ∧ (∀ r ∈ m', r.length = n) ∧ Cur b s' := by
 obtain ⟨x, s1, h1, e1, x0, x1, c1⟩ := l1Below_ok b hb s h 7 hs
 have x2 := x1 (by decide)
 obtain ⟨i, rfl⟩ := Int.eq_ofNat_of_zero_le x0
 obtain ⟨m', s', h', ev, hl, hm', hc⟩ := l5Draw_l0 b hb n hn i [] s1 h1 (by simp;omega) (by simp) c1
 refine ⟨m', s', h', ?_, by rw [hl];simp;omega, hm', hc⟩
 unfold spec_l5Draw.f
 simp only [e1, Option.bind_some]
 exact ev
theorem l5Any_l0 (b : List Int) (hb : b.length ≤ 1048576) (n : Nat) (hn : n ≤ 1000) (d : Nat) : ∀ (m : List (List Int)) (s h : Int), m.length + d = 13 → (∀ r ∈ m, r.length = n) → Cur b s → ∃ (m' : List (List Int)) (s' h' : Int), Ev (fun k => spec_l5Any.l0 k (n : Int) m b s h) (m', s', h') ∧ m'.length = 13 ∧ (∀ r ∈ m', r.length = n) ∧ Cur b s' := by
 induction d with
|zero =>
  intro m s h hm hr hs
  refine ⟨m, s, h, Ev.step (f := fun _ => some (m, s, h)) (fun k => ?_) (Ev.now _), by omega, hr, hs⟩
  simp only [spec_l5Any.l0]
  rw [if_neg (by omega)]
|succ d ih =>
  intro m s h hm hr hs
  obtain ⟨x, s1, h1, e1, hx, c1⟩ := l5Row_ev b hb n hn s h hs
  obtain ⟨m', s', h', ev, hl, hm', hc⟩ := ih (m ++ [x]) s1 h1 (by simp;omega) (fun r hr' => by
   rcases List.mem_append.1 hr' with h|h
   ·exact hr r h
   ·rw [List.mem_singleton.1 h];exact hx) c1
  refine ⟨m', s', h', Ev.step (f := fun k => (spec_l5Row.f k b s h (n : Int)).bind fun bt => spec_l5Any.l0 k (n : Int) (m ++ [bt.1]) b bt.2.1 bt.2.2) (fun k => ?_) (Ev.bind e1 ev), hl, hm', hc⟩
  simp only [spec_l5Any.l0]
  rw [if_pos (by omega)]
  simp only [if_pos (show m.length < 5864062014805 by omega)]
structure Drawn (m : List (List Int)) (n : Nat) : Prop where
 len : m.length ≤ 13
 fst : ∀ r ∈ m, r.length = n ∨ r.length = n + 1
 rest : ∀ i (h : i < m.length), 0 < i → m[i].length = n
theorem Drawn.of {m : List (List Int)} {n : Nat} (hl : m.length ≤ 13) (h : ∀ r ∈ m, r.length = n) : Drawn m n := ⟨hl, fun r hr => .inl (h r hr), fun i hi _ => h _ (List.getElem_mem hi)⟩
theorem Drawn.set0 {m : List (List Int)} {n : Nat} (hl : m.length ≤ 13) (h : ∀ r ∈ m, r.length = n) (x : List Int) (hx : x.length = n ∨ x.length = n + 1) : Drawn (m.set 0 x) n := by
 refine ⟨by simpa using hl, fun r hr => ?_, fun i hi h0 => ?_⟩
 ·rcases List.mem_or_eq_of_mem_set hr with h1|h1
  ·exact .inl (h r h1)
  ·rw [h1];exact hx
 ·rw [List.getElem_set_ne (by omega)]
  exact h _ (List.getElem_mem _)
theorem l5Any_ev (b : List Int) (hb : b.length ≤ 1048576) (n : Nat) (hn0 : 0 < n) (hn : n ≤ 1000) (s h : Int) (hs : Cur b s) : ∃ (m' : List (List Int)) (s' h' : Int), Ev (fun k => spec_l5Any.f k b s h (n : Int)) (m', s', h') ∧ Drawn m' n ∧ Cur b s' := by
 obtain ⟨m, s1, h1, e1, hm, hr, c1⟩ := l5Draw_ev b hb n hn s h hs
 unfold spec_l5Any.f
 by_cases c0 : (m.length : Int) = 0
 ·refine ⟨m, s1, h1, Ev.bind e1 ?_, Drawn.of (by omega) hr, c1⟩
  simp only [if_pos c0]
  exact Ev.now _
 obtain ⟨x, s2, h2, e2, x0, x1, c2⟩ := l1Below_ok b hb s1 h1 9 c1
 have hrow : rd_L1 m 0 = m[0]'(by omega) := rdL_nat m 0 (by omega)
 have hl0 : (m[0]'(by omega)).length = n := hr _ (List.getElem_mem _)
 by_cases k0 : x = 0
 ·refine ⟨m.set 0 (m[0]'(by omega) ++ [1]), s2, h2, Ev.bind e1 ?_, Drawn.set0 (by omega) hr _ (by simp [hl0]), c2⟩
  simp only [if_neg c0, e2, Option.bind_some, if_pos k0, if_pos (show 0 < (m.length : Int) by omega), hrow]
  rw [if_pos (by omega)]
  exact Ev.now _
 by_cases k1 : x = 1
 ·obtain ⟨y, s3, h3, e3, _, c3⟩ := l1Int_ok b hb s2 h2 [3, (-3), 9223372036854775807] (by simp) c2
  refine ⟨m.set 0 ((m[0]'(by omega)).set 0 y), s3, h3, Ev.bind e1 ?_, Drawn.set0 (by omega) hr _ (by simp [hl0]), c3⟩
  simp only [if_neg c0, e2, Option.bind_some, if_neg k0, if_pos k1, if_pos (show 0 < (m.length : Int) by omega), hrow, e3]
  rw [if_pos (by omega)]
  exact Ev.now _
 by_cases k2 : x = 2
 ·obtain ⟨m', s', h', ev, hl, hm', hc⟩ := l5Any_l0 b hb n hn (13 - m.length) m s2 h2 (by omega) hr c2
  refine ⟨m', s', h', Ev.bind e1 ?_, Drawn.of (by omega) hm', hc⟩
  simp only [if_neg c0, e2, Option.bind_some, if_neg k0, if_neg k1, if_pos k2]
  exact ev
 ·refine ⟨m, s2, h2, Ev.bind e1 ?_, Drawn.of (by omega) hr, c2⟩
  simp only [if_neg c0, e2, Option.bind_some, if_neg k0, if_neg k1, if_neg k2]
  exact Ev.now _
theorem drawSpan_l0 (n : Nat) (m : List (List Int)) (hn : n ≤ 1000) (h1 : 1 < m.length) (h0 : (m[0]'(by omega)).length = n) (h2 : (m[1]'(by omega)).length = n) (d : Nat) : ∀ (i : Nat) (r : List Int), n - i = d → i ≤ n → r.length = i → ∃ r' : List Int, Ev (fun k => spec_DrawIsInSpan.l0 k (n : Int) m r (i : Int)) (m, r') ∧ r'.length = n := by
 induction d with
|zero =>
  intro i r hd hi hr
  refine ⟨r, Ev.step (f := fun _ => some (m, r)) (fun k => ?_) (Ev.now _), by omega⟩
  simp only [spec_DrawIsInSpan.l0]
  rw [if_neg (by omega)]
|succ d ih =>
  intro i r hd hi hr
  have hr0 : rd_L1 m 0 = m[0]'(by omega) := rdL_nat m 0 (by omega)
  have hr1 : rd_L1 m 1 = m[1]'(by omega) := rdL_nat m 1 (by omega)
  obtain ⟨x, hx⟩ : ∃ x, spec_Min.f 2 (wrap64 ((rd (rd_L1 m 0) (i : Int)) + (rd (rd_L1 m 1) (i : Int)))) = some x := by
   unfold spec_Min.f
   split <;> exact ⟨_, rfl⟩
  obtain ⟨y, hy⟩ : ∃ y, spec_Max.f (-2) x = some y := by
   unfold spec_Max.f
   split <;> exact ⟨_, rfl⟩
  obtain ⟨r', ev, hl⟩ := ih (i + 1) (r ++ [y]) (by omega) (by omega) (by simp [hr])
  refine ⟨r', Ev.step (f := fun k => spec_DrawIsInSpan.l0 k (n : Int) m (r ++ [y]) ((i + 1 : Nat) : Int)) (fun k => ?_) ev, hl⟩
  simp only [spec_DrawIsInSpan.l0]
  rw [if_pos (by omega), if_pos (by omega), if_pos (by omega), if_pos (by rw [hr0];omega), if_pos (by omega), if_pos (by rw [hr1];omega), hx]
  simp only [Option.bind_some, hy]
  rw [if_pos (by omega), wrap_id (by omega) (by omega)]
  rfl
theorem drawSpan_ev (b : List Int) (hb : b.length ≤ 1048576) : ∃ (m : List (List Int)) (r : List Int) (n : Nat), Ev (fun k => spec_DrawNullVector.f k b) (m, r) ∧ Drawn m n ∧ r.length = n ∧ 0 < n ∧ n ≤ 6 := by
 suffices h : ∃ (m : List (List Int)) (r : List Int) (n : Nat), Ev (fun k => spec_DrawIsInSpan.f k b) (m, r) ∧ Drawn m n ∧ r.length = n ∧ 0 < n ∧ n ≤ 6 by
  obtain ⟨m, r, n, e, h1, h2, h3, h4⟩ := h
  refine ⟨m, r, n, ?_, h1, h2, h3, h4⟩
  unfold spec_DrawNullVector.f
  exact Ev.bind e (Ev.now _)
 obtain ⟨h0, e0⟩ := l1New_ev b hb
 obtain ⟨x, s1, h1, e1, x0, x1, c1⟩ := l1Below_ok b hb 0 h0 6 (cur0 b)
 have x2 := x1 (by decide)
 obtain ⟨j, rfl⟩ := Int.eq_ofNat_of_zero_le x0
 have hw : wrap64 (1 + (j : Int)) = ((j + 1 : Nat) : Int) := by rw [wrap_id (by omega) (by omega)];omega
 obtain ⟨m, s2, h2, e2, hm, c2⟩ := l5Any_ev b hb (j + 1) (by omega) (by omega) s1 h1 c1
 have hrow : ∀ s h, Cur b s → ∃ r : List Int, Ev (fun k => spec_DrawIsInSpan.j0 k ((j + 1 : Nat) : Int) m false b s h) (m, r) ∧ r.length = j + 1 := fun s h hc => by
  obtain ⟨r, s3, h3, e3, hr, _⟩ := l5Row_ev b hb (j + 1) (by omega) s h hc
  refine ⟨r, Ev.step (f := fun k => (spec_l5Row.f k b s h ((j + 1 : Nat) : Int)).bind fun bt => some (m, bt.1)) (fun k => ?_) (Ev.bind e3 (Ev.now _)), hr⟩
  simp only [spec_DrawIsInSpan.j0]
  rw [if_neg (by decide)]
 unfold spec_DrawIsInSpan.f
 by_cases cm : (m.length : Int) > 1
 ·obtain ⟨t, s3, h3, e3, c3⟩ := l1Once_ok b hb s2 h2 3 c2
  cases t with
 |false =>
   obtain ⟨r, er, hr⟩ := hrow s3 h3 c3
   refine ⟨m, r, j + 1, ?_, hm, hr, by omega, by omega⟩
   refine Ev.bind e0 ?_
   simp only [e1, Option.bind_some, hw]
   refine Ev.bind e2 ?_
   simp only [if_pos cm, e3, Option.bind_some, Bool.false_eq_true, if_false]
   exact er
 |true =>
   have hrd : rd_L1 m 0 = m[0]'(by omega) := rdL_nat m 0 (by omega)
   by_cases cl : (m[0]'(by omega)).length = j + 1
   ·obtain ⟨r, er, hr⟩ := drawSpan_l0 (j + 1) m (by omega) (by omega) cl (hm.rest 1 (by omega) (by omega)) (j + 1) 0 [] (by omega) (by omega) rfl
    refine ⟨m, r, j + 1, ?_, hm, hr, by omega, by omega⟩
    refine Ev.bind e0 ?_
    simp only [e1, Option.bind_some, hw]
    refine Ev.bind e2 ?_
    simp only [if_pos cm, e3, Option.bind_some, if_true, if_pos (show 0 < (m.length : Int) by omega), hrd, cl, beq_self_eq_true]
    refine Ev.step (fun k => ?_) er
    simp only [spec_DrawIsInSpan.j0]
    rw [if_pos trivial]
    rfl
   ·obtain ⟨r, er, hr⟩ := hrow s3 h3 c3
    refine ⟨m, r, j + 1, ?_, hm, hr, by omega, by omega⟩
    refine Ev.bind e0 ?_
    simp only [e1, Option.bind_some, hw]
    refine Ev.bind e2 ?_
    have hne : (((m[0]'(by omega)).length : Int) == ((j + 1 : Nat) : Int)) = false := by
     rw [beq_eq_false_iff_ne];omega
    simp only [if_pos cm, e3, Option.bind_some, if_true, if_pos (show 0 < (m.length : Int) by omega), hrd, hne]
    exact er
 ·obtain ⟨r, er, hr⟩ := hrow s2 h2 c2
  refine ⟨m, r, j + 1, ?_, hm, hr, by omega, by omega⟩
  refine Ev.bind e0 ?_
  simp only [e1, Option.bind_some, hw]
  refine Ev.bind e2 ?_
  simp only [if_neg cm]
  exact er
theorem dotN_comm (a b : V) : ∀ n : Nat, dotN a b n = dotN b a n
 | 0 => rfl
 | n + 1 => by
  simp only [dotN]
  rw [dotN_comm a b n, Int.mul_comm]
theorem spanLaw_l0 (m : List (List Int)) (row v : List Int) (n : Nat) (hn : n ≤ 1000) (hml : m.length ≤ 1000) (hm : ∀ r ∈ m, r.length = n) (hr : row.length = n) (hv : v.length = n) (hms : ∀ r ∈ m, ∀ j, (at0 r j).natAbs ≤ 1000) (hrs : ∀ j, (at0 row j).natAbs ≤ 1000) (hvs : ∀ j, (at0 v j).natAbs ≤ 46080)
  (h0 : ∀ r ∈ m, dotN (at0 v) (at0 r) n = 0) (h1 : dotN (at0 v) (at0 row) n ≠ 0) (d : Nat) : ∀ i : Nat, m.length - i = d → Ev (fun k => laws_FnSpan.l0 k m row v (i : Int)) true := by
 have hpr : ∀ r : List Int, (∀ j, (at0 r j).natAbs ≤ 1000) → ∀ j, j < n → (at0 r j * at0 v j).natAbs ≤ 1099511627776 := fun r h j _ => by
  rw [Int.natAbs_mul]
  exact Nat.le_trans (Nat.mul_le_mul (h j) (hvs j)) (by omega)
 induction d with
|zero =>
  intro i hd
  refine Ev.step (f := fun k => (impl_DotOf.f k row v).bind fun t => some (t != 0)) (fun k => ?_) (Ev.bind (dotI_ev row v n hr hv hn (hpr row hrs)) ?_)
  ·simp only [laws_FnSpan.l0]
   rw [if_neg (by omega), if_pos (by omega)]
  ·rw [dotN_comm, show (dotN (at0 v) (at0 row) n != 0) = true from bne_iff_ne.2 h1]
   exact Ev.now _
|succ d ih =>
  intro i hd
  have h : i < m.length := by omega
  have hmem := List.getElem_mem h
  refine Ev.step (f := fun k => (impl_DotOf.f k m[i] v).bind fun t => if t = 0 then laws_FnSpan.l0 k m row v ((i + 1 : Nat) : Int) else some false) (fun k => ?_) (Ev.bind (dotI_ev m[i] v n (hm _ hmem) hv hn (hpr _ (hms _ hmem))) ?_)
  ·simp only [laws_FnSpan.l0]
   rw [if_pos (by omega), if_pos (by omega), rdL_nat m i h, wrap_id (by omega) (by omega)]
   rfl
  ·rw [dotN_comm, h0 _ hmem]
   simp only [if_true]
   exact ih (i + 1) (by omega)
theorem FnSpan : laws_FnSpan.Pure := by
 intro l0 _ _ w0
 refine Ev.rounds ?_
 unfold laws_FnSpan.f
 simp only [big_eq, Option.bind_some]
 by_cases cb : (l0.length : Int) > 1048576
 ·simp only [decide_eq_true cb, if_true];exact Ev.now true
 have b_l0 : l0.length ≤ 1048576 := by omega
 simp only [decide_eq_false cb, Bool.false_eq_true, if_false]
 obtain ⟨m, row, n, hd, hm, hr, hn0, hn⟩ := drawSpan_ev l0 b_l0
 have hml := hm.len
 have hmr : ∀ x ∈ m, x.length ≤ 16777216 := fun x hx => by have := hm.fst x hx;omega
 obtain ⟨v, vI, vS, vl, v1, v2, v3⟩ := null_both m row (by omega) hmr (by omega)
 obtain ⟨b, bI, _, bi, b0⟩ := span_both m row (by omega) hmr (by omega)
 have e1 := implMat_ev m (by omega) hmr (row.length : Int)
 have e2 := implMat_ev [row] (by simp) (fun x hx => by rw [List.mem_singleton.1 hx];omega) (row.length : Int)
 refine Ev.bind hd ?_
 refine Ev.bind vI ?_
 refine Ev.bind vS ?_
 simp only [if_true]
 refine Ev.bind bI ?_
 simp only [if_neg (show ¬ (row.length : Int) = 0 by omega)]
 have hout : bothB m row = false → Ev (fun k => laws_FnSpan.j0 k m row v b true) true := fun h => by
  rw [b0 h, v1 h]
  refine Ev.step (f := fun _ => some true) (fun k => ?_) (Ev.now _)
  simp only [laws_FnSpan.j0]
  rw [if_pos trivial, if_neg (by decide)]
  rfl
 refine Ev.bind e1 ?_
 cases hb1 : isMat m (row.length : Int) with
|false =>
  simp only [Bool.false_eq_true, if_false]
  exact hout (by unfold bothB;rw [hb1];rfl)
|true =>
  simp only [if_true]
  refine Ev.bind e2 ?_
  cases hb2 : isMat [row] (row.length : Int) with
 |false =>
   simp only [Bool.not_false]
   exact hout (by unfold bothB;rw [hb2, Bool.and_false])
 |true =>
   simp only [Bool.not_true]
   have hb : bothB m row = true := by unfold bothB;rw [hb1, hb2];rfl
   cases b with
  |true =>
    rw [v2 ((bi hb).1 rfl)]
    refine Ev.step (f := fun _ => some true) (fun k => ?_) (Ev.now _)
    simp only [laws_FnSpan.j0]
    rw [if_neg (by decide), if_pos trivial]
    rfl
  |false =>
    have hns : ¬ Sp (RowSp m) (at0 row) := fun h => by have := (bi hb).2 h;cases this
    obtain ⟨hN, n2, hn2, hok⟩ := v3 hb hns
    obtain ⟨n3, hn3, hok3, _⟩ := okm_of_isMat hb2
    have hvl := hN.len
    have hz := hN.zero
    have ho := hN.one
    rw [hr] at hvl hz ho
    have := spanLaw_l0 m row v n (by omega) (by omega) (fun r h => by rw [hok.len r h];omega) hr hvl (fun r h j => Nat.le_trans (hok.small r h j) (bnd_le _ _)) (fun j => Nat.le_trans (hok3.small row (by simp) j) (bnd_le _ _)) (fun j => by have := hN.small j;omega) hz ho m.length 0 (by omega)
    refine Ev.step (fun k => ?_) this
    simp only [laws_FnSpan.j0]
    rw [if_neg (by decide), if_neg (by decide)]
    rfl
end Go.Proofs.Ytojkepidkmkmpaa.Pure
end
section
namespace Go.Proofs.Ytojkepidkmkmpaa.fnSpan
open Go.ChangeShapes Go.WideShapes Go.ChangeAt Go.RowKit
open Go.ChangeMaps (open_string shut_string)
set_option linter.unusedVariables false
theorem own : ownKnob Try.prog.godebug = none := by kernel_rfl
theorem laidOut : laidOutB Try.prog = true := by kernel_rfl
def IsRow (k : IntKind) (w : World) (a : Option Addr) (len cap : Nat) (zs : List Int) : Prop :=
 (a = none ∧ len = 0 ∧ cap = 0 ∧ zs = []) ∨
 ∃ x, a = some x ∧ len ≤ cap ∧ cap ≤ maxLen ∧ zs.length = cap ∧ (∀ i, i < zs.length → w.cell? (x.add i) = some (.int k (zs.getD i 0))) ∧ ∀ n ∈ zs, (Lit.int k n).wf = true
set_option maxRecDepth 100000 in
theorem lifted (os : Os) (started : os.Started) (H : Type) (enc : TypeId × Value → H) :
  ReturnsInHanded {} Try.checked os 13 .any (Rows.fnSpanSpec.pre6 enc Try.prog Try.f13 Rows.fnSpanRow.domain false) (Rows.fnSpanSpec.post enc Try.prog Try.f13 false true false false) := by
 refine returnsInHanded_of_change_sized (C := Try.checked) own started (by kernel_rfl) Try.func13
  (ChangeSpec.witness6 (enc := enc) (C := Try.checked) false ⟨#[], #[.slice none 0 0], []⟩ 8 (by kernel_rfl) (by kernel_rfl) (by kernel_rfl) (by kernel_rfl)) ?_
 intro W base args ds gs before hval0 hW hcnd hsz0 _
 have hsz : (DataW.weightsEach Try.prog (Try.f13.params.toList ++ Rows.fnSpanSpec.plain.varTypes Try.prog) (ds ++ gs)).all (· ≤ reachBytes) = true := hsz0
 have hval : ∀ (j : Nat) t v, Try.f13.params[j]? = some t → args[j]? = some v → Value.okWide Try.prog W .any base t v := hval0
 have hW' := hW
 obtain ⟨p, q, hA0, hV, rfl, hfz, hnd⟩ := hW
 have hA : DataW.TrodAll enc Try.prog W 0 (fun _ => true) true Try.f13.params.toList args.toList ds p := hA0
 rw [Try.params13] at hA hval hsz
 obtain ⟨v0, vs0, d0, ds0, p0, q0, hargs, rfl, rfl, h0, r0⟩ := trodAll_cons hA
 obtain ⟨rfl, rfl, rfl⟩ := trodAll_nil r0
 obtain rfl : args = #[v0] := by cases args;simp_all
 obtain ⟨rfl, rfl⟩ := trodVars_none hV
 obtain ⟨a0, len0, cap0, rfl⟩ := okWide_slice Try.underlying35 (hval 0 35 v0 rfl rfl)
 have k0 := h0
 have lt0 : ∀ x ∈ p0, x.block < W.heap.size := by obtain ⟨m, hm⟩ := k0;exact DataW.trod_lt m _ _ _ hm
 obtain ⟨z0, w0⟩ : ∃ zs, IsRow .u8 W a0 len0 cap0 zs := by
  obtain ⟨fuel, hf⟩ := h0
  rcases open_ints Try.underlying35 Try.underlying5 (by kernel_rfl) hf with ⟨hcs, _⟩|⟨x, l, c, zs, hcs, _, hl, hm, hz, _, hcell, hwz⟩
  ·simp [Value.cells] at hcs
   obtain ⟨rfl, rfl, rfl⟩ := hcs
   exact ⟨[], .inl ⟨rfl, rfl, rfl, rfl⟩⟩
  ·simp [Value.cells] at hcs
   obtain ⟨rfl, rfl, rfl⟩ := hcs
   exact ⟨zs, .inr ⟨_, rfl, hl, hm, by simpa using hz, hcell, hwz⟩⟩
 have y0 : len0 * 1 ≤ 140737488351232 := Go.Proofs.YtojkepidkmkmpaaW.PrintWords.sized_ints hsz (j := 0) (t := 35) rfl rfl Try.underlying35 Try.underlying5 (by kernel_rfl) (by kernel_rfl) h0
 clear hA0 hval0 hsz0 hsz
 refine (PFnSpan.laws_FnSpan.walk Pure.FnSpan a0 len0 cap0 z0 W w0 y0).mono fun e W' ⟨he, bel⟩ => ?_
 subst he
 exact ⟨_, rfl, _, _, _, [], _, [], hW', trodAll_mk1 (shut_bool Try.underlying4 _), (trodAll_cons_mk (Below.trod laidOut (by kernel_rfl) (of_decide_eq_true (by kernel_rfl)) k0 bel lt0) trodAll_mk0), rfl, bel.frame _, fun h => by cases h⟩
theorem over : Rows.fnSpanRow.holds Try.pinned (OpenSpec.ofChange Rows.fnSpanSpec) :=
 OpenClaim.holds_of_wide 13 Try.f13 rfl rfl rfl rfl rfl rfl rfl ⟨rfl, rfl, rfl, rfl, rfl⟩ rfl rfl rfl rfl rfl (by kernel_rfl) Try.func13 (by kernel_rfl)
  (of_decide_eq_true (by kernel_rfl)) (by unfold Func.isWrapper; first | (rw [if_pos (by decide +kernel)]; kernel_rfl) | (rw [if_neg (by decide +kernel)]; exact ⟨rfl, rfl⟩))
  (fun os started H enc _ => lifted os started H enc)
theorem proved : Rows.FnSpanSaid := over
#print axioms proved
end Go.Proofs.Ytojkepidkmkmpaa.fnSpan
namespace Go.Proofs.Ytojkepidkmkmpaa
theorem fnSpan_holds : Rows.FnSpanSaid := fnSpan.proved
end Go.Proofs.Ytojkepidkmkmpaa
end
