/-
  For all arguments, the program's RowOf returns what the reference's RowOf returns.
  Conditions: none beside the given statement's own.
-/
import Derived.Test.YtdfjpnpkgigolaaPFnExactRowOfx2
set_option linter.unusedSimpArgs false
set_option linter.unusedVariables false
namespace Go.Proofs.Ytdfjpnpkgigolaa.Pure
open Go.RowKit Go.Proofs.Ytdfjpnpkgigolaa.PFnExactRowOf Go.Proofs.YtdfjpnpkgigolaaW.PrintWords Go.Proofs.YtdfjpnpkgigolaaW.PrintLast Go.Proofs.YtdfjpnpkgigolaaW.PrintMore

theorem wrap_id {x : Int} (h1 : -9223372036854775808 ≤ x) (h2 : x < 9223372036854775808) : wrap64 x = x := by unfold wrap64; omega
theorem rd_nat (l : List Int) (i : Nat) (h : i < l.length) : rd l (i : Int) = l[i] := by
  unfold rd; rw [Int.toNat_natCast, List.getD_eq_getElem?_getD, List.getElem?_eq_getElem h]; rfl
theorem wf64 {x : Int} (h : (Lit.int .i64 x).wf = true) : -9223372036854775808 ≤ x ∧ x < 9223372036854775808 := by
  have h1 : IntKind.i64.min = -9223372036854775808 := by decide
  have h2 : IntKind.i64.max = 9223372036854775807 := by decide
  simp only [Lit.wf, h1, h2, Bool.and_eq_true, decide_eq_true_eq] at h
  omega
theorem wf8 {x : Int} (h : (Lit.int .u8 x).wf = true) : 0 ≤ x ∧ x < 256 := by
  have h1 : IntKind.u8.min = 0 := by decide
  have h2 : IntKind.u8.max = 255 := by decide
  simp only [Lit.wf, h1, h2, Bool.and_eq_true, decide_eq_true_eq] at h
  omega
theorem set_take (l x : List Int) (i : Nat) (h : i < l.length) (hx : x.length = l.length) (ht : x.take i = l.take i) : (x.set i l[i]).take (i + 1) = l.take (i + 1) := by
  apply List.ext_getElem?
  intro j
  simp only [List.getElem?_take, List.getElem?_set]
  have hj : (x.take i)[j]? = (l.take i)[j]? := by rw [ht]
  simp only [List.getElem?_take] at hj
  by_cases h1 : j < i + 1
  · rw [if_pos h1, if_pos h1]
    by_cases h2 : i = j
    · subst h2; rw [if_pos rfl, if_pos (by omega), List.getElem?_eq_getElem h]
    · rw [if_neg h2]; rw [if_pos (by omega), if_pos (by omega)] at hj; exact hj
  · rw [if_neg h1, if_neg h1]
theorem drop_eq_cons (l : List Int) (i : Nat) (h : i < l.length) : l.drop i = l[i] :: l.drop (i + 1) := List.drop_eq_getElem_cons h
theorem cons_iff {a b : Int} (e : a = b) (l x : List Int) : (a :: l = b :: x) ↔ l = x := by
  rw [e]
  exact ⟨fun h => (List.cons.inj h).2, fun h => by rw [h]⟩
theorem take_full (l x : List Int) (i : Nat) (hi : l.length ≤ i) (hx : x.length = l.length) (ht : x.take i = l.take i) : x = l := by
  rwa [List.take_of_length_le (by omega), List.take_of_length_le hi] at ht

theorem toIntS_l0 (l : List Int) (hl : l.length ≤ 1048576) (d : Nat) : ∀ (i : Nat) (x : List Int), l.length - i = d → i ≤ l.length → x.length = l.length → x.take i = l.take i → Ev (fun k => laws_toIntS.l0 k l x (i : Int)) l := by
  induction d with
  | zero =>
    intro i x hd hi hx ht
    obtain rfl := take_full l x i (by omega) hx ht
    refine Ev.step (f := fun _ => some x) (fun k => ?_) (Ev.now x)
    simp only [laws_toIntS.l0]
    rw [if_neg (by omega)]
  | succ d ih =>
    intro i x hd hi hx ht
    have h : i < l.length := by omega
    refine Ev.step (f := fun k => laws_toIntS.l0 k l (x.set i l[i]) ((i + 1 : Nat) : Int)) (fun k => ?_) (ih (i + 1) _ (by omega) (by omega) (by simpa using hx) (set_take l x i h hx ht))
    simp only [laws_toIntS.l0]
    rw [if_pos (by omega), if_pos (by omega), if_pos (by omega), rd_nat l i h, wrap_id (by omega) (by omega), Int.toNat_natCast]
    rfl
theorem toIntS_ev (l : List Int) (hl : l.length ≤ 1048576) : Ev (fun k => laws_toIntS.f k l) l := by
  refine Ev.congr (f := fun k => laws_toIntS.l0 k l (List.replicate l.length 0) ((0 : Nat) : Int)) (fun k => ?_) (toIntS_l0 l hl l.length 0 _ (by omega) (by omega) (by simp) (by simp))
  unfold laws_toIntS.f
  rw [if_pos (by omega), Int.toNat_natCast, if_pos (by omega)]
  rfl

theorem eqIntS_l0 (l x : List Int) (hl : l.length ≤ 16777216) (hx : x.length = l.length) (d : Nat) : ∀ (i : Nat), l.length - i = d → i ≤ l.length → Ev (fun k => laws_eqIntS.l0 k l x (i : Int)) (decide (l.drop i = x.drop i)) := by
  induction d with
  | zero =>
    intro i hd hi
    rw [List.drop_eq_nil_of_le (by omega), List.drop_eq_nil_of_le (by omega), decide_eq_true rfl]
    refine Ev.step (f := fun _ => some true) (fun k => ?_) (Ev.now true)
    simp only [laws_eqIntS.l0]
    rw [if_neg (by omega)]
  | succ d ih =>
    intro i hd hi
    have h : i < l.length := by omega
    have h' : i < x.length := by omega
    rw [drop_eq_cons l i h, drop_eq_cons x i h']
    by_cases e : l[i] = x[i]
    · rw [decide_eq_decide.2 (cons_iff e _ _)]
      refine Ev.step (f := fun k => laws_eqIntS.l0 k l x ((i + 1 : Nat) : Int)) (fun k => ?_) (ih (i + 1) (by omega) (by omega))
      simp only [laws_eqIntS.l0]
      rw [if_pos (by omega), if_pos (by omega), if_pos (by omega), rd_nat l i h, rd_nat x i h', if_pos e, wrap_id (by omega) (by omega)]
      rfl
    · rw [decide_eq_false fun h => e (List.cons.inj h).1]
      refine Ev.step (f := fun _ => some false) (fun k => ?_) (Ev.now false)
      simp only [laws_eqIntS.l0]
      rw [if_pos (by omega), if_pos (by omega), if_pos (by omega), rd_nat l i h, rd_nat x i h', if_neg e]
theorem eqIntS_ev (l x : List Int) (hl : l.length ≤ 16777216) : Ev (fun k => laws_eqIntS.f k l x) (decide (l = x)) := by
  by_cases e : l.length = x.length
  · refine Ev.congr (f := fun k => laws_eqIntS.l0 k l x ((0 : Nat) : Int)) (fun k => ?_) (by simpa using eqIntS_l0 l x hl e.symm l.length 0 (by omega) (by omega))
    unfold laws_eqIntS.f
    rw [if_pos (by omega)]
    rfl
  · rw [decide_eq_false (fun h => e (by rw [h]))]
    refine Ev.congr (f := fun _ => some false) (fun k => ?_) (Ev.now false)
    unfold laws_eqIntS.f
    rw [if_neg (by omega)]
theorem eqIntS_self (l : List Int) (hl : l.length ≤ 16777216) : Ev (fun k => laws_eqIntS.f k l l) true := by
  simpa using eqIntS_ev l l hl

theorem markIntS_l0 (d : Nat) : ∀ (x : List Int) (a : Int) (i : Nat), x.length ≤ 16777216 → x.length - i = d → i ≤ x.length → 0 < a → a + d < 1073741824 → ∃ y : List Int, y.length = x.length ∧ (∀ j : Nat, j < i → rd y j = rd x j) ∧ (∀ j : Nat, i ≤ j → j < x.length → rd y j = a + (j - i : Nat)) ∧ Ev (fun k => laws_markIntS.l0 k x a (i : Int)) (a + d, y) := by
  induction d with
  | zero =>
    intro x a i hl hd hi h0 h1
    refine ⟨x, rfl, fun _ _ => rfl, fun j h2 h3 => by omega, ?_⟩
    refine Ev.step (f := fun _ => some (a, x)) (fun k => ?_) (by simpa using Ev.now (a, x))
    simp only [laws_markIntS.l0]
    rw [if_neg (by omega)]
  | succ d ih =>
    intro x a i hl hd hi h0 h1
    have h : i < x.length := by omega
    obtain ⟨y, hy, hy1, hy2, hy3⟩ := ih (x.set i (a)) (a + 1) (i + 1) (by simpa using hl) (by simp; omega) (by simp; omega) (by omega) (by omega)
    refine ⟨y, by simpa using hy, fun j hj => ?_, fun j h2 h3 => ?_, ?_⟩
    · rw [hy1 j (by omega), rd_nat _ j (by simp; omega), rd_nat _ j (by omega), List.getElem_set_ne (by omega)]
    · by_cases e : i = j
      · subst e
        rw [hy1 i (by omega), rd_nat _ i (by simp; omega), List.getElem_set_self]
        simp
      · rw [hy2 j (by omega) (by simpa using h3)]
        have : a + 1 + ((j - (i + 1) : Nat) : Int) = a + ((j - i : Nat) : Int) := by omega
        rw [this]
    · have e : a + ((d + 1 : Nat) : Int) = a + 1 + (d : Int) := by omega
      rw [e]
      refine Ev.step (f := fun k => laws_markIntS.l0 k (x.set i (a)) (a + 1) ((i + 1 : Nat) : Int)) (fun k => ?_) hy3
      simp only [laws_markIntS.l0]
      rw [if_pos (by omega), if_pos (by omega), wrap_id (x := a + 1) (by omega) (by omega), wrap_id (x := (i : Int) + 1) (by omega) (by omega), Int.toNat_natCast]
      rfl
theorem markIntS_ev (x : List Int) (a : Int) (hl : x.length ≤ 16777216) (h0 : 0 < a) (h1 : a + x.length < 1073741824) : ∃ y : List Int, y.length = x.length ∧ (∀ j : Nat, j < y.length → rd y j = a + (j : Nat)) ∧ Ev (fun k => laws_markIntS.f k x a) (a + (x.length : Int), y) := by
  obtain ⟨y, hy, _, hy2, hy3⟩ := markIntS_l0 x.length x a 0 hl (by omega) (by omega) h0 (by omega)
  exact ⟨y, hy, fun j hj => by simpa using hy2 j (by omega) (by omega), Ev.congr (f := fun k => laws_markIntS.l0 k x a ((0 : Nat) : Int)) (fun k => rfl) hy3⟩

theorem heldIntS_l0 (d : Nat) : ∀ (y : List Int) (a : Int) (i : Nat), y.length ≤ 16777216 → y.length - i = d → i ≤ y.length → 0 < a → a + d < 1073741824 → (∀ j : Nat, i ≤ j → j < y.length → rd y j = a + (j - i : Nat)) → Ev (fun k => laws_heldIntS.l0 k y a (i : Int)) (a + d) := by
  induction d with
  | zero =>
    intro y a i hl hd hi h0 h1 hy
    refine Ev.step (f := fun _ => some a) (fun k => ?_) (by simpa using Ev.now a)
    simp only [laws_heldIntS.l0]
    rw [if_neg (by omega)]
  | succ d ih =>
    intro y a i hl hd hi h0 h1 hy
    have e : a + ((d + 1 : Nat) : Int) = a + 1 + (d : Int) := by omega
    rw [e]
    have hri := hy i (by omega) (by omega)
    simp only [Nat.sub_self, Int.natCast_zero, Int.add_zero] at hri
    refine Ev.step (f := fun k => laws_heldIntS.l0 k y (a + 1) ((i + 1 : Nat) : Int)) (fun k => ?_) (ih y (a + 1) (i + 1) hl (by omega) (by omega) (by omega) (by omega) fun j h2 h3 => ?_)
    · simp only [laws_heldIntS.l0]
      rw [if_pos (by omega), if_pos (by omega), if_pos hri, wrap_id (x := a + 1) (by omega) (by omega), wrap_id (x := (i : Int) + 1) (by omega) (by omega)]
      rfl
    · rw [hy j (by omega) h3]
      have : a + 1 + ((j - (i + 1) : Nat) : Int) = a + ((j - i : Nat) : Int) := by omega
      rw [this]
theorem heldIntS_ev (y : List Int) (a : Int) (n : Nat) (hn : y.length = n) (hl : n ≤ 16777216) (h0 : 0 < a) (h1 : a + n < 1073741824) (hy : ∀ j : Nat, j < y.length → rd y j = a + (j : Nat)) : Ev (fun k => laws_heldIntS.f k y a) (a + (n : Int)) := by
  refine Ev.congr (f := fun k => laws_heldIntS.l0 k y a ((0 : Nat) : Int)) (fun k => rfl) ?_
  exact heldIntS_l0 n y a 0 (by omega) (by omega) (by omega) h0 h1 fun j _ hj => by simpa using hy j hj

theorem l1In_eq (a b c : Int) : spec_l1In.f a b c = some (decide (b ≤ a ∧ a ≤ c)) := by
  unfold spec_l1In.f
  by_cases h : a ≥ b
  · rw [if_pos h]; congr 1; by_cases h2 : a ≤ c <;> simp [h2] <;> omega
  · rw [if_neg h]; congr 1; simp; omega
theorem InRange_eq (a b c : Int) : impl_InRange.f a b c = some (decide (b ≤ a ∧ a ≤ c)) := by
  unfold impl_InRange.f
  by_cases h : b ≤ a
  · rw [if_pos h]; congr 1; by_cases h2 : a ≤ c <;> simp [h2] <;> omega
  · rw [if_neg h]; congr 1; simp; omega

theorem at_eq (a b : Int) : impl_at.f a b = some (decide (0 ≤ a ∧ a < b)) := by
  unfold impl_at.f
  by_cases h : a ≥ 0
  · rw [if_pos h]; congr 1; by_cases h2 : a < b <;> simp [h2] <;> omega
  · rw [if_neg h]; congr 1; simp; omega
theorem l7Has_l0 (l : List Int) (hl : l.length ≤ 1048576) (x : Int) (d : Nat) : ∀ i : Nat, l.length - i = d → Ev (fun k => spec_l7Has.l0 k l x (i : Int)) (decide (x ∈ l.drop i)) := by
  induction d with
  | zero =>
    intro i hd
    rw [List.drop_eq_nil_of_le (by omega)]
    refine Ev.step (f := fun _ => some false) (fun k => ?_) (by simpa using Ev.now false)
    simp only [spec_l7Has.l0]
    rw [if_neg (by omega)]
  | succ d ih =>
    intro i hd
    have h : i < l.length := by omega
    rw [drop_eq_cons l i h]
    by_cases e : l[i] = x
    · rw [decide_eq_true (by simp [e])]
      refine Ev.step (f := fun _ => some true) (fun k => ?_) (Ev.now true)
      simp only [spec_l7Has.l0]
      rw [if_pos (by omega), if_pos (by omega), rd_nat l i h, if_pos e]
    · have e2 : decide (x ∈ l[i] :: l.drop (i + 1)) = decide (x ∈ l.drop (i + 1)) := decide_eq_decide.2 ⟨fun h => (List.mem_cons.1 h).resolve_left fun h => e h.symm, List.mem_cons_of_mem _⟩
      rw [e2]
      refine Ev.step (f := fun k => spec_l7Has.l0 k l x ((i + 1 : Nat) : Int)) (fun k => ?_) (ih (i + 1) (by omega))
      simp only [spec_l7Has.l0]
      rw [if_pos (by omega), if_pos (by omega), rd_nat l i h, if_neg e, wrap_id (by omega) (by omega)]
      rfl
theorem l7Has_ev (l : List Int) (hl : l.length ≤ 1048576) (x : Int) : Ev (fun k => spec_l7Has.f k l x) (decide (x ∈ l)) := l7Has_l0 l hl x l.length 0 (by omega)
def rowFrom (l : List Int) : Nat → Nat → List Int
  | _, 0 => []
  | i, d + 1 => (if (i : Int) ∈ l then 1 else 0) :: rowFrom l (i + 1) d
theorem rowFrom_len (l : List Int) (d : Nat) : ∀ i, (rowFrom l i d).length = d := by
  induction d with
  | zero => intro i; rfl
  | succ d ih => intro i; simp [rowFrom, ih]
theorem rowFrom_get (l : List Int) (d : Nat) : ∀ i j, j < d → rd (rowFrom l i d) (j : Int) = if ((i + j : Nat) : Int) ∈ l then 1 else 0 := by
  induction d with
  | zero => intro i j h; omega
  | succ d ih =>
    intro i j h
    cases j with
    | zero => simp [rd, rowFrom]
    | succ j =>
      have h1 := ih (i + 1) j (by omega)
      have e : rd (rowFrom l i (d + 1)) ((j + 1 : Nat) : Int) = rd (rowFrom l (i + 1) d) (j : Int) := by simp [rd, rowFrom]
      rw [e, h1, show i + 1 + j = i + (j + 1) by omega]
theorem ext_rd (x y : List Int) (h : x.length = y.length) (hr : ∀ j : Nat, j < x.length → rd x (j : Int) = rd y (j : Int)) : x = y := by
  apply List.ext_getElem h
  intro j h1 h2
  have := hr j h1
  rwa [rd_nat x j h1, rd_nat y j h2] at this
theorem specRow_l0 (l : List Int) (hl : l.length ≤ 1048576) (n : Nat) (hn : n ≤ 6) (d : Nat) : ∀ (i : Nat) (acc : List Int), i + d = n → acc.length = i → Ev (fun k => spec_RowOf.l0 k l (n : Int) acc (i : Int)) (acc ++ rowFrom l i d) := by
  induction d with
  | zero =>
    intro i acc hd ha
    refine Ev.step (f := fun _ => some acc) (fun k => ?_) (by simpa [rowFrom] using Ev.now acc)
    simp only [spec_RowOf.l0]
    rw [if_neg (by omega)]
  | succ d ih =>
    intro i acc hd ha
    refine Ev.step (f := fun k => (spec_l7Has.f k l (i : Int)).bind fun t => if t = true then (if acc.length < 17592186044416 then spec_RowOf.l0 k l (n : Int) (acc ++ [1]) ((i + 1 : Nat) : Int) else none) else (if acc.length < 17592186044416 then spec_RowOf.l0 k l (n : Int) (acc ++ [0]) ((i + 1 : Nat) : Int) else none)) (fun k => ?_) (Ev.bind (l7Has_ev l hl (i : Int)) ?_)
    · simp only [spec_RowOf.l0]
      rw [if_pos (by omega), wrap_id (x := (i : Int) + 1) (by omega) (by omega)]
      rfl
    · simp only [if_pos (show acc.length < 17592186044416 by omega), rowFrom]
      by_cases e : (i : Int) ∈ l
      · simp only [decide_eq_true e, if_true, if_pos e]
        rw [List.append_cons acc 1 (rowFrom l (i + 1) d)]
        exact ih (i + 1) (acc ++ [1]) (by omega) (by simp [ha])
      · simp only [decide_eq_false e, Bool.false_eq_true, if_false, if_neg e]
        rw [List.append_cons acc 0 (rowFrom l (i + 1) d)]
        exact ih (i + 1) (acc ++ [0]) (by omega) (by simp [ha])
theorem implRow_l0 (l : List Int) (hl : l.length ≤ 1048576) (n : Nat) (hn : n ≤ 6) (d : Nat) : ∀ (i : Nat) (x : List Int), l.length - i = d → x.length = n → (∀ j : Nat, j < n → rd x (j : Int) = if (j : Int) ∈ l.take i then 1 else 0) → Ev (fun k => impl_RowOf.l0 k (n : Int) x l (l.length : Int) (i : Int)) (rowFrom l 0 n) := by
  induction d with
  | zero =>
    intro i x hd hx hr
    have e : x = rowFrom l 0 n := ext_rd _ _ (by rw [hx, rowFrom_len]) fun j hj => by
      rw [hr j (by omega), List.take_of_length_le (by omega), rowFrom_get l n 0 j (by omega), Nat.zero_add]
    rw [← e]
    refine Ev.step (f := fun _ => some x) (fun k => ?_) (Ev.now x)
    simp only [impl_RowOf.l0]
    rw [if_neg (by omega)]
  | succ d ih =>
    intro i x hd hx hr
    have h : i < l.length := by omega
    have hm : ∀ j : Nat, (j : Int) ∈ l.take (i + 1) ↔ (j : Int) ∈ l.take i ∨ (j : Int) = l[i] := fun j => by
      rw [List.take_succ_eq_append_getElem h, List.mem_append, List.mem_singleton]
    by_cases c : 0 ≤ l[i] ∧ l[i] < (n : Int)
    · refine Ev.step (f := fun k => impl_RowOf.l0 k (n : Int) (x.set l[i].toNat 1) l (l.length : Int) ((i + 1 : Nat) : Int)) (fun k => ?_) (ih (i + 1) (x.set l[i].toNat 1) (by omega) (by simpa using hx) fun j hj => ?_)
      · simp only [impl_RowOf.l0]
        rw [if_pos (by omega), if_pos (by omega), if_pos (by omega), rd_nat l i h, at_eq, decide_eq_true c]
        simp only [Option.bind_some, if_true]
        rw [if_pos c.1, if_pos (by omega), wrap_id (by omega) (by omega)]
        rfl
      · have hj' : j < (x.set l[i].toNat 1).length := by simpa [hx] using hj
        have h0 := hr j hj
        rw [rd_nat x j (by omega)] at h0
        rw [rd_nat _ j hj', List.getElem_set]
        by_cases e : l[i].toNat = j
        · rw [if_pos e, if_pos ((hm j).2 (.inr (by omega)))]
        · rw [if_neg e, h0]
          have : ((j : Int) ∈ l.take (i + 1)) ↔ (j : Int) ∈ l.take i := by
            rw [hm j]
            exact ⟨fun h => h.resolve_right fun h => e (by omega), .inl⟩
          simp only [this]
    · refine Ev.step (f := fun k => impl_RowOf.l0 k (n : Int) x l (l.length : Int) ((i + 1 : Nat) : Int)) (fun k => ?_) (ih (i + 1) x (by omega) hx fun j hj => ?_)
      · simp only [impl_RowOf.l0]
        rw [if_pos (by omega), if_pos (by omega), if_pos (by omega), rd_nat l i h, at_eq, decide_eq_false c]
        simp only [Option.bind_some, Bool.false_eq_true, if_false]
        rw [wrap_id (by omega) (by omega)]
        rfl
      · rw [hr j hj]
        have : ((j : Int) ∈ l.take (i + 1)) ↔ (j : Int) ∈ l.take i := by
          rw [hm j]
          exact ⟨fun h => h.resolve_right fun h => c (by omega), .inl⟩
        simp only [this]
def rowOf (l : List Int) (n : Int) : List Int := if 1 ≤ n ∧ n ≤ 6 then rowFrom l 0 n.toNat else []
theorem rowOf_len (l : List Int) (n : Int) : (rowOf l n).length ≤ 6 := by
  unfold rowOf
  split
  · rw [rowFrom_len]; omega
  · simp
theorem specRow_ev (l : List Int) (n : Int) (hl : l.length ≤ 1048576) : Ev (fun k => spec_RowOf.f k l n) (rowOf l n) := by
  unfold spec_RowOf.f rowOf
  simp only [Option.bind_some, l1In_eq]
  by_cases c : 1 ≤ n ∧ n ≤ 6
  · simp only [decide_eq_true c, if_true, if_pos c]
    have := specRow_l0 l hl n.toNat (by omega) n.toNat 0 [] (by omega) rfl
    rw [Int.toNat_of_nonneg (by omega)] at this
    exact this
  · simp only [decide_eq_false c, Bool.false_eq_true, if_false, if_neg c]
    exact Ev.now _
theorem implRow_ev (l : List Int) (n : Int) (hl : l.length ≤ 1048576) : Ev (fun k => impl_RowOf.f k l n) (rowOf l n) := by
  unfold impl_RowOf.f rowOf
  simp only [Option.bind_some, InRange_eq]
  by_cases c : 1 ≤ n ∧ n ≤ 6
  · simp only [decide_eq_true c, if_true, if_pos c, if_pos (show 0 ≤ n by omega), if_pos (show n.toNat ≤ 35184372088832 by omega)]
    have := implRow_l0 l hl n.toNat (by omega) l.length 0 (List.replicate n.toNat 0) (by omega) (by simp) fun j hj => by rw [rd_nat _ j (by simpa using hj)]; simp
    rw [Int.toNat_of_nonneg (by omega)] at this
    exact this
  · simp only [decide_eq_false c, Bool.false_eq_true, if_false, if_neg c]
    exact Ev.now _

theorem FnExactRowOf : laws_FnExactRowOf.Pure := by
  intro l0 a1 _ _ w0 _
  refine Ev.rounds ?_
  unfold laws_FnExactRowOf.f
  by_cases c_l0 : (l0.length : Int) > 1048576
  · simp only [if_pos c_l0]; exact Ev.now true
  have b_l0 : l0.length ≤ 1048576 := by omega
  simp only [if_neg c_l0]
  have hR : (rowOf l0 a1).length ≤ 16000000 := by have := rowOf_len l0 a1; omega
  refine Ev.bind (toIntS_ev l0 b_l0) ?_
  refine Ev.bind (specRow_ev l0 a1 b_l0) ?_
  refine Ev.bind (toIntS_ev l0 b_l0) ?_
  refine Ev.bind (implRow_ev l0 a1 b_l0) ?_
  refine Ev.bind (eqIntS_self (rowOf l0 a1) (by have := hR; omega)) ?_
  simp only [if_true, bne_self_eq_false, Bool.not_true, Bool.false_eq_true, if_false]
  refine Ev.bind (toIntS_ev l0 b_l0) ?_
  refine Ev.bind (eqIntS_self l0 (by omega)) ?_
  simp only [if_true]
  obtain ⟨y_l0, hy_l0, _, m_l0⟩ := markIntS_ev l0 (1) (by omega) (by omega) (by omega)
  refine Ev.bind m_l0 ?_
  simp only [if_neg (show ¬ (1 + (l0.length : Int) < 0) by omega)]
  refine Ev.bind (eqIntS_self (rowOf l0 a1) (by have := hR; omega)) ?_
  refine Ev.step (fun k => laws_FnExactRowOf.j0.eq_2 _ _ _ _ _ _) ?_
  simp only [Bool.not_true, Bool.false_eq_true, if_false]
  obtain ⟨z0, hz0, hm0, q0⟩ := markIntS_ev (rowOf l0 a1) (1) (by have := hR; omega) (by omega) (by have := hR; omega)
  have e0 := heldIntS_ev z0 (1) _ hz0 (by have := hR; omega) (by omega) (by have := hR; omega) hm0
  refine Ev.bind q0 ?_
  refine Ev.bind e0 ?_
  simp only [if_neg (show ¬ (1 + ((rowOf l0 a1).length : Int) < 0) by omega), if_true]
  refine Ev.bind (toIntS_ev l0 b_l0) ?_
  refine Ev.bind (implRow_ev l0 a1 b_l0) ?_
  refine Ev.bind (eqIntS_self (rowOf l0 a1) (by have := hR; omega)) ?_
  simp only [if_true, bne_self_eq_false, Bool.not_true, Bool.false_eq_true, if_false]
  refine Ev.bind e0 ?_
  simp only [if_neg (show ¬ (1 + ((rowOf l0 a1).length : Int) < 0) by omega), if_true]
  exact Ev.now true

end Go.Proofs.Ytdfjpnpkgigolaa.Pure
