/-
  For all arguments, the program's BytesToInts returns what the reference's BytesToInts returns.
  Conditions: none beside the given statement's own.
-/
import Derived.Test.YtdfjpnpkgigolaaPFnExactBytesToIntsx2
namespace Go.Proofs.Ytdfjpnpkgigolaa.Pure
open Go.RowKit Go.Proofs.Ytdfjpnpkgigolaa.PFnExactBytesToInts Go.Proofs.YtdfjpnpkgigolaaW.PrintWords Go.Proofs.YtdfjpnpkgigolaaW.PrintLast Go.Proofs.YtdfjpnpkgigolaaW.PrintMore

theorem wrap_id {x : Int} (h1 : -9223372036854775808 ≤ x) (h2 : x < 9223372036854775808) : wrap64 x = x := by unfold wrap64; omega
theorem rd_nat (l : List Int) (i : Nat) (h : i < l.length) : rd l (i : Int) = l[i] := by
  unfold rd; rw [Int.toNat_natCast, List.getD_eq_getElem?_getD, List.getElem?_eq_getElem h]; rfl
theorem wf64 {x : Int} (h : (Lit.int .i64 x).wf = true) : -9223372036854775808 ≤ x ∧ x < 9223372036854775808 := by
  have h1 : IntKind.i64.min = -9223372036854775808 := by decide
  have h2 : IntKind.i64.max = 9223372036854775807 := by decide
  simp only [Lit.wf, h1, h2, Bool.and_eq_true, decide_eq_true_eq] at h
  omega
theorem wf8 {x : Int} (h : (Lit.int .u8 x).wf = true) : 0 ≤ x ∧ x < 256 := by
  have h1 : IntKind.u8.min = 0 := by decide
  have h2 : IntKind.u8.max = 255 := by decide
  simp only [Lit.wf, h1, h2, Bool.and_eq_true, decide_eq_true_eq] at h
  omega
theorem set_take (l x : List Int) (i : Nat) (h : i < l.length) (hx : x.length = l.length) (ht : x.take i = l.take i) : (x.set i l[i]).take (i + 1) = l.take (i + 1) := by
  apply List.ext_getElem?
  intro j
  simp only [List.getElem?_take, List.getElem?_set]
  have hj : (x.take i)[j]? = (l.take i)[j]? := by rw [ht]
  simp only [List.getElem?_take] at hj
  by_cases h1 : j < i + 1
  · rw [if_pos h1, if_pos h1]
    by_cases h2 : i = j
    · subst h2; rw [if_pos rfl, if_pos (by omega), List.getElem?_eq_getElem h]
    · rw [if_neg h2]; rw [if_pos (by omega), if_pos (by omega)] at hj; exact hj
  · rw [if_neg h1, if_neg h1]
theorem drop_eq_cons (l : List Int) (i : Nat) (h : i < l.length) : l.drop i = l[i] :: l.drop (i + 1) := List.drop_eq_getElem_cons h
theorem cons_iff {a b : Int} (e : a = b) (l x : List Int) : (a :: l = b :: x) ↔ l = x := by
  rw [e]
  exact ⟨fun h => (List.cons.inj h).2, fun h => by rw [h]⟩
theorem take_full (l x : List Int) (i : Nat) (hi : l.length ≤ i) (hx : x.length = l.length) (ht : x.take i = l.take i) : x = l := by
  rwa [List.take_of_length_le (by omega), List.take_of_length_le hi] at ht

theorem toByteS_l0 (l : List Int) (hl : l.length ≤ 1048576) (d : Nat) : ∀ (i : Nat) (x : List Int), l.length - i = d → i ≤ l.length → x.length = l.length → x.take i = l.take i → Ev (fun k => laws_toByteS.l0 k l x (i : Int)) l := by
  induction d with
  | zero =>
    intro i x hd hi hx ht
    obtain rfl := take_full l x i (by omega) hx ht
    refine Ev.step (f := fun _ => some x) (fun k => ?_) (Ev.now x)
    simp only [laws_toByteS.l0]
    rw [if_neg (by omega)]
  | succ d ih =>
    intro i x hd hi hx ht
    have h : i < l.length := by omega
    refine Ev.step (f := fun k => laws_toByteS.l0 k l (x.set i l[i]) ((i + 1 : Nat) : Int)) (fun k => ?_) (ih (i + 1) _ (by omega) (by omega) (by simpa using hx) (set_take l x i h hx ht))
    simp only [laws_toByteS.l0]
    rw [if_pos (by omega), if_pos (by omega), if_pos (by omega), rd_nat l i h, wrap_id (by omega) (by omega), Int.toNat_natCast]
    rfl
theorem toByteS_ev (l : List Int) (hl : l.length ≤ 1048576) : Ev (fun k => laws_toByteS.f k l) l := by
  refine Ev.congr (f := fun k => laws_toByteS.l0 k l (List.replicate l.length 0) ((0 : Nat) : Int)) (fun k => ?_) (toByteS_l0 l hl l.length 0 _ (by omega) (by omega) (by simp) (by simp))
  unfold laws_toByteS.f
  rw [if_pos (by omega), Int.toNat_natCast, if_pos (by omega)]
  rfl

theorem eqByteS_l0 (l x : List Int) (hl : l.length ≤ 2097152) (hx : x.length = l.length) (d : Nat) : ∀ (i : Nat), l.length - i = d → i ≤ l.length → Ev (fun k => laws_eqByteS.l0 k l x (i : Int)) (decide (l.drop i = x.drop i)) := by
  induction d with
  | zero =>
    intro i hd hi
    rw [List.drop_eq_nil_of_le (by omega), List.drop_eq_nil_of_le (by omega), decide_eq_true rfl]
    refine Ev.step (f := fun _ => some true) (fun k => ?_) (Ev.now true)
    simp only [laws_eqByteS.l0]
    rw [if_neg (by omega)]
  | succ d ih =>
    intro i hd hi
    have h : i < l.length := by omega
    have h' : i < x.length := by omega
    rw [drop_eq_cons l i h, drop_eq_cons x i h']
    by_cases e : l[i] = x[i]
    · rw [decide_eq_decide.2 (cons_iff e _ _)]
      refine Ev.step (f := fun k => laws_eqByteS.l0 k l x ((i + 1 : Nat) : Int)) (fun k => ?_) (ih (i + 1) (by omega) (by omega))
      simp only [laws_eqByteS.l0]
      rw [if_pos (by omega), if_pos (by omega), if_pos (by omega), rd_nat l i h, rd_nat x i h', if_pos e, wrap_id (by omega) (by omega)]
      rfl
    · rw [decide_eq_false fun h => e (List.cons.inj h).1]
      refine Ev.step (f := fun _ => some false) (fun k => ?_) (Ev.now false)
      simp only [laws_eqByteS.l0]
      rw [if_pos (by omega), if_pos (by omega), if_pos (by omega), rd_nat l i h, rd_nat x i h', if_neg e]
theorem eqByteS_ev (l x : List Int) (hl : l.length ≤ 2097152) : Ev (fun k => laws_eqByteS.f k l x) (decide (l = x)) := by
  by_cases e : l.length = x.length
  · refine Ev.congr (f := fun k => laws_eqByteS.l0 k l x ((0 : Nat) : Int)) (fun k => ?_) (by simpa using eqByteS_l0 l x hl e.symm l.length 0 (by omega) (by omega))
    unfold laws_eqByteS.f
    rw [if_pos (by omega)]
    rfl
  · rw [decide_eq_false (fun h => e (by rw [h]))]
    refine Ev.congr (f := fun _ => some false) (fun k => ?_) (Ev.now false)
    unfold laws_eqByteS.f
    rw [if_neg (by omega)]
theorem eqByteS_self (l : List Int) (hl : l.length ≤ 2097152) : Ev (fun k => laws_eqByteS.f k l l) true := by
  simpa using eqByteS_ev l l hl

theorem eqIntS_l0 (l x : List Int) (hl : l.length ≤ 2097152) (hx : x.length = l.length) (d : Nat) : ∀ (i : Nat), l.length - i = d → i ≤ l.length → Ev (fun k => laws_eqIntS.l0 k l x (i : Int)) (decide (l.drop i = x.drop i)) := by
  induction d with
  | zero =>
    intro i hd hi
    rw [List.drop_eq_nil_of_le (by omega), List.drop_eq_nil_of_le (by omega), decide_eq_true rfl]
    refine Ev.step (f := fun _ => some true) (fun k => ?_) (Ev.now true)
    simp only [laws_eqIntS.l0]
    rw [if_neg (by omega)]
  | succ d ih =>
    intro i hd hi
    have h : i < l.length := by omega
    have h' : i < x.length := by omega
    rw [drop_eq_cons l i h, drop_eq_cons x i h']
    by_cases e : l[i] = x[i]
    · rw [decide_eq_decide.2 (cons_iff e _ _)]
      refine Ev.step (f := fun k => laws_eqIntS.l0 k l x ((i + 1 : Nat) : Int)) (fun k => ?_) (ih (i + 1) (by omega) (by omega))
      simp only [laws_eqIntS.l0]
      rw [if_pos (by omega), if_pos (by omega), if_pos (by omega), rd_nat l i h, rd_nat x i h', if_pos e, wrap_id (by omega) (by omega)]
      rfl
    · rw [decide_eq_false fun h => e (List.cons.inj h).1]
      refine Ev.step (f := fun _ => some false) (fun k => ?_) (Ev.now false)
      simp only [laws_eqIntS.l0]
      rw [if_pos (by omega), if_pos (by omega), if_pos (by omega), rd_nat l i h, rd_nat x i h', if_neg e]
theorem eqIntS_ev (l x : List Int) (hl : l.length ≤ 2097152) : Ev (fun k => laws_eqIntS.f k l x) (decide (l = x)) := by
  by_cases e : l.length = x.length
  · refine Ev.congr (f := fun k => laws_eqIntS.l0 k l x ((0 : Nat) : Int)) (fun k => ?_) (by simpa using eqIntS_l0 l x hl e.symm l.length 0 (by omega) (by omega))
    unfold laws_eqIntS.f
    rw [if_pos (by omega)]
    rfl
  · rw [decide_eq_false (fun h => e (by rw [h]))]
    refine Ev.congr (f := fun _ => some false) (fun k => ?_) (Ev.now false)
    unfold laws_eqIntS.f
    rw [if_neg (by omega)]
theorem eqIntS_self (l : List Int) (hl : l.length ≤ 2097152) : Ev (fun k => laws_eqIntS.f k l l) true := by
  simpa using eqIntS_ev l l hl

theorem markByteS_l0 (d : Nat) : ∀ (x : List Int) (a : Int) (i : Nat), x.length ≤ 2097152 → x.length - i = d → i ≤ x.length → 0 < a → a + d < 16777216 → ∃ y : List Int, y.length = x.length ∧ (∀ j : Nat, j < i → rd y j = rd x j) ∧ (∀ j : Nat, i ≤ j → j < x.length → rd y j = (a + (j - i : Nat)) % 256) ∧ Ev (fun k => laws_markByteS.l0 k x a (i : Int)) (a + d, y) := by
  induction d with
  | zero =>
    intro x a i hl hd hi h0 h1
    refine ⟨x, rfl, fun _ _ => rfl, fun j h2 h3 => by omega, ?_⟩
    refine Ev.step (f := fun _ => some (a, x)) (fun k => ?_) (by simpa using Ev.now (a, x))
    simp only [laws_markByteS.l0]
    rw [if_neg (by omega)]
  | succ d ih =>
    intro x a i hl hd hi h0 h1
    have h : i < x.length := by omega
    obtain ⟨y, hy, hy1, hy2, hy3⟩ := ih (x.set i (a % 256)) (a + 1) (i + 1) (by simpa using hl) (by simp; omega) (by simp; omega) (by omega) (by omega)
    refine ⟨y, by simpa using hy, fun j hj => ?_, fun j h2 h3 => ?_, ?_⟩
    · rw [hy1 j (by omega), rd_nat _ j (by simp; omega), rd_nat _ j (by omega), List.getElem_set_ne (by omega)]
    · by_cases e : i = j
      · subst e
        rw [hy1 i (by omega), rd_nat _ i (by simp; omega), List.getElem_set_self]
        simp
      · rw [hy2 j (by omega) (by simpa using h3)]
        have : a + 1 + ((j - (i + 1) : Nat) : Int) = a + ((j - i : Nat) : Int) := by omega
        rw [this]
    · have e : a + ((d + 1 : Nat) : Int) = a + 1 + (d : Int) := by omega
      rw [e]
      refine Ev.step (f := fun k => laws_markByteS.l0 k (x.set i (a % 256)) (a + 1) ((i + 1 : Nat) : Int)) (fun k => ?_) hy3
      simp only [laws_markByteS.l0]
      rw [if_pos (by omega), if_pos (by omega), wrap_id (x := a + 1) (by omega) (by omega), wrap_id (x := (i : Int) + 1) (by omega) (by omega), Int.toNat_natCast]
      rfl
theorem markByteS_ev (x : List Int) (a : Int) (hl : x.length ≤ 2097152) (h0 : 0 < a) (h1 : a + x.length < 16777216) : ∃ y : List Int, y.length = x.length ∧ (∀ j : Nat, j < y.length → rd y j = (a + (j : Nat)) % 256) ∧ Ev (fun k => laws_markByteS.f k x a) (a + (x.length : Int), y) := by
  obtain ⟨y, hy, _, hy2, hy3⟩ := markByteS_l0 x.length x a 0 hl (by omega) (by omega) h0 (by omega)
  exact ⟨y, hy, fun j hj => by simpa using hy2 j (by omega) (by omega), Ev.congr (f := fun k => laws_markByteS.l0 k x a ((0 : Nat) : Int)) (fun k => rfl) hy3⟩

theorem markIntS_l0 (d : Nat) : ∀ (x : List Int) (a : Int) (i : Nat), x.length ≤ 2097152 → x.length - i = d → i ≤ x.length → 0 < a → a + d < 16777216 → ∃ y : List Int, y.length = x.length ∧ (∀ j : Nat, j < i → rd y j = rd x j) ∧ (∀ j : Nat, i ≤ j → j < x.length → rd y j = a + (j - i : Nat)) ∧ Ev (fun k => laws_markIntS.l0 k x a (i : Int)) (a + d, y) := by
  induction d with
  | zero =>
    intro x a i hl hd hi h0 h1
    refine ⟨x, rfl, fun _ _ => rfl, fun j h2 h3 => by omega, ?_⟩
    refine Ev.step (f := fun _ => some (a, x)) (fun k => ?_) (by simpa using Ev.now (a, x))
    simp only [laws_markIntS.l0]
    rw [if_neg (by omega)]
  | succ d ih =>
    intro x a i hl hd hi h0 h1
    have h : i < x.length := by omega
    obtain ⟨y, hy, hy1, hy2, hy3⟩ := ih (x.set i (a)) (a + 1) (i + 1) (by simpa using hl) (by simp; omega) (by simp; omega) (by omega) (by omega)
    refine ⟨y, by simpa using hy, fun j hj => ?_, fun j h2 h3 => ?_, ?_⟩
    · rw [hy1 j (by omega), rd_nat _ j (by simp; omega), rd_nat _ j (by omega), List.getElem_set_ne (by omega)]
    · by_cases e : i = j
      · subst e
        rw [hy1 i (by omega), rd_nat _ i (by simp; omega), List.getElem_set_self]
        simp
      · rw [hy2 j (by omega) (by simpa using h3)]
        have : a + 1 + ((j - (i + 1) : Nat) : Int) = a + ((j - i : Nat) : Int) := by omega
        rw [this]
    · have e : a + ((d + 1 : Nat) : Int) = a + 1 + (d : Int) := by omega
      rw [e]
      refine Ev.step (f := fun k => laws_markIntS.l0 k (x.set i (a)) (a + 1) ((i + 1 : Nat) : Int)) (fun k => ?_) hy3
      simp only [laws_markIntS.l0]
      rw [if_pos (by omega), if_pos (by omega), wrap_id (x := a + 1) (by omega) (by omega), wrap_id (x := (i : Int) + 1) (by omega) (by omega), Int.toNat_natCast]
      rfl
theorem markIntS_ev (x : List Int) (a : Int) (hl : x.length ≤ 2097152) (h0 : 0 < a) (h1 : a + x.length < 16777216) : ∃ y : List Int, y.length = x.length ∧ (∀ j : Nat, j < y.length → rd y j = a + (j : Nat)) ∧ Ev (fun k => laws_markIntS.f k x a) (a + (x.length : Int), y) := by
  obtain ⟨y, hy, _, hy2, hy3⟩ := markIntS_l0 x.length x a 0 hl (by omega) (by omega) h0 (by omega)
  exact ⟨y, hy, fun j hj => by simpa using hy2 j (by omega) (by omega), Ev.congr (f := fun k => laws_markIntS.l0 k x a ((0 : Nat) : Int)) (fun k => rfl) hy3⟩

theorem heldIntS_l0 (d : Nat) : ∀ (y : List Int) (a : Int) (i : Nat), y.length ≤ 2097152 → y.length - i = d → i ≤ y.length → 0 < a → a + d < 16777216 → (∀ j : Nat, i ≤ j → j < y.length → rd y j = a + (j - i : Nat)) → Ev (fun k => laws_heldIntS.l0 k y a (i : Int)) (a + d) := by
  induction d with
  | zero =>
    intro y a i hl hd hi h0 h1 hy
    refine Ev.step (f := fun _ => some a) (fun k => ?_) (by simpa using Ev.now a)
    simp only [laws_heldIntS.l0]
    rw [if_neg (by omega)]
  | succ d ih =>
    intro y a i hl hd hi h0 h1 hy
    have e : a + ((d + 1 : Nat) : Int) = a + 1 + (d : Int) := by omega
    rw [e]
    have hri := hy i (by omega) (by omega)
    simp only [Nat.sub_self, Int.natCast_zero, Int.add_zero] at hri
    refine Ev.step (f := fun k => laws_heldIntS.l0 k y (a + 1) ((i + 1 : Nat) : Int)) (fun k => ?_) (ih y (a + 1) (i + 1) hl (by omega) (by omega) (by omega) (by omega) fun j h2 h3 => ?_)
    · simp only [laws_heldIntS.l0]
      rw [if_pos (by omega), if_pos (by omega), if_pos hri, wrap_id (x := a + 1) (by omega) (by omega), wrap_id (x := (i : Int) + 1) (by omega) (by omega)]
      rfl
    · rw [hy j (by omega) h3]
      have : a + 1 + ((j - (i + 1) : Nat) : Int) = a + ((j - i : Nat) : Int) := by omega
      rw [this]
theorem heldIntS_ev (y : List Int) (a : Int) (n : Nat) (hn : y.length = n) (hl : n ≤ 2097152) (h0 : 0 < a) (h1 : a + n < 16777216) (hy : ∀ j : Nat, j < y.length → rd y j = a + (j : Nat)) : Ev (fun k => laws_heldIntS.f k y a) (a + (n : Int)) := by
  refine Ev.congr (f := fun k => laws_heldIntS.l0 k y a ((0 : Nat) : Int)) (fun k => rfl) ?_
  exact heldIntS_l0 n y a 0 (by omega) (by omega) (by omega) h0 h1 fun j _ hj => by simpa using hy j hj

theorem specBytesToInts_l0 (l : List Int) (hl : l.length ≤ 1048576) (w : ∀ x ∈ l, (Lit.int .u8 x).wf = true) (d : Nat) : ∀ (i : Nat) (acc : List Int), l.length - i = d → acc.length = i + 1 → Ev (fun k => spec_BytesToInts.l0 k l acc (i : Int)) (acc ++ l.drop i) := by
  induction d with
  | zero =>
    intro i acc hd ha
    rw [List.drop_eq_nil_of_le (by omega), List.append_nil]
    refine Ev.step (f := fun _ => some acc) (fun k => ?_) (Ev.now acc)
    simp only [spec_BytesToInts.l0]
    rw [if_neg (by omega)]
  | succ d ih =>
    intro i acc hd ha
    have h : i < l.length := by omega
    have hw := wf8 (w _ (List.getElem_mem h))
    rw [drop_eq_cons l i h, List.append_cons]
    refine Ev.step (f := fun k => spec_BytesToInts.l0 k l (acc ++ [l[i]]) ((i + 1 : Nat) : Int)) (fun k => ?_) (ih (i + 1) (acc ++ [l[i]]) (by omega) (by simp [ha]))
    simp only [spec_BytesToInts.l0]
    rw [if_pos (by omega), if_pos (by omega), if_pos (by omega), rd_nat l i h, wrap_id (x := l[i]) (by omega) (by omega), wrap_id (x := (i : Int) + 1) (by omega) (by omega)]
    rfl
theorem implBytesToInts_l0 (l : List Int) (hl : l.length ≤ 1048576) (w : ∀ x ∈ l, (Lit.int .u8 x).wf = true) (d : Nat) : ∀ (i : Nat) (acc : List Int), l.length - i = d → acc.length = i + 1 → Ev (fun k => impl_BytesToInts.l0 k acc l (l.length : Int) (i : Int)) (acc ++ l.drop i) := by
  induction d with
  | zero =>
    intro i acc hd ha
    rw [List.drop_eq_nil_of_le (by omega), List.append_nil]
    refine Ev.step (f := fun _ => some acc) (fun k => ?_) (Ev.now acc)
    simp only [impl_BytesToInts.l0]
    rw [if_neg (by omega)]
  | succ d ih =>
    intro i acc hd ha
    have h : i < l.length := by omega
    have hw := wf8 (w _ (List.getElem_mem h))
    rw [drop_eq_cons l i h, List.append_cons]
    refine Ev.step (f := fun k => impl_BytesToInts.l0 k (acc ++ [l[i]]) l (l.length : Int) ((i + 1 : Nat) : Int)) (fun k => ?_) (ih (i + 1) (acc ++ [l[i]]) (by omega) (by simp [ha]))
    simp only [impl_BytesToInts.l0]
    rw [if_pos (by omega), if_pos (by omega), if_pos (by omega), if_pos (by omega), rd_nat l i h, wrap_id (x := l[i]) (by omega) (by omega), wrap_id (x := (i : Int) + 1) (by omega) (by omega)]
    rfl
theorem specBytesToInts_ev (l : List Int) (hl : l.length ≤ 1048576) (w : ∀ x ∈ l, (Lit.int .u8 x).wf = true) : Ev (fun k => spec_BytesToInts.f k l) ((l.length : Int) :: l) := by
  unfold spec_BytesToInts.f
  exact specBytesToInts_l0 l hl w l.length 0 [(l.length : Int)] (by omega) rfl
theorem implBytesToInts_ev (l : List Int) (hl : l.length ≤ 1048576) (w : ∀ x ∈ l, (Lit.int .u8 x).wf = true) : Ev (fun k => impl_BytesToInts.f k l) ((l.length : Int) :: l) := by
  unfold impl_BytesToInts.f
  exact implBytesToInts_l0 l hl w l.length 0 [(l.length : Int)] (by omega) rfl

theorem FnExactBytesToInts : laws_FnExactBytesToInts.Pure := by
  intro l0 _ _ w0
  refine Ev.rounds ?_
  unfold laws_FnExactBytesToInts.f
  by_cases c_l0 : (l0.length : Int) > 1048576
  · simp only [if_pos c_l0]; exact Ev.now true
  have b_l0 : l0.length ≤ 1048576 := by omega
  simp only [if_neg c_l0]
  refine Ev.bind (toByteS_ev l0 b_l0) ?_
  refine Ev.bind (specBytesToInts_ev l0 b_l0 w0) ?_
  refine Ev.bind (toByteS_ev l0 b_l0) ?_
  refine Ev.bind (implBytesToInts_ev l0 b_l0 w0) ?_
  refine Ev.bind (eqIntS_self _ (by simp; omega)) ?_
  simp only [if_true]
  refine Ev.bind (toByteS_ev l0 b_l0) ?_
  refine Ev.bind (eqByteS_self l0 (by omega)) ?_
  simp only [if_true]
  obtain ⟨y0, hy0, _, m0⟩ := markByteS_ev l0 1 (by omega) (by omega) (by omega)
  refine Ev.bind m0 ?_
  simp only [if_neg (show ¬ (1 + (l0.length : Int) < 0) by omega)]
  refine Ev.bind (eqIntS_self _ (by simp; omega)) ?_
  refine Ev.step (fun k => laws_FnExactBytesToInts.j0.eq_2 _ _ _ _ _) ?_
  simp only [Bool.not_true, Bool.false_eq_true, if_false]
  obtain ⟨y1, hy1, hm1, m1⟩ := markIntS_ev ((l0.length : Int) :: l0) 1 (by simp; omega) (by omega) (by simp; omega)
  have e1 := heldIntS_ev y1 1 _ hy1 (by simp; omega) (by omega) (by simp; omega) hm1
  refine Ev.bind m1 ?_
  refine Ev.bind e1 ?_
  simp only [if_neg (show ¬ (1 + (((l0.length : Int) :: l0).length : Int) < 0) by simp; omega), if_true]
  refine Ev.bind (toByteS_ev l0 b_l0) ?_
  refine Ev.bind (implBytesToInts_ev l0 b_l0 w0) ?_
  refine Ev.bind (eqIntS_self _ (by simp; omega)) ?_
  simp only [if_true]
  refine Ev.bind e1 ?_
  simp only [if_neg (show ¬ (1 + (((l0.length : Int) :: l0).length : Int) < 0) by simp; omega), if_true]
  exact Ev.now true

end Go.Proofs.Ytdfjpnpkgigolaa.Pure
