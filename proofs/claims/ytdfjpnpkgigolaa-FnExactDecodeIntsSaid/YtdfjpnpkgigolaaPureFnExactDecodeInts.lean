/-
  For all arguments, the program's DecodeInts returns what the reference's DecodeInts returns.
  Conditions: none beside the given statement's own.
-/
import Derived.Test.YtdfjpnpkgigolaaPFnExactDecodeIntsx3
set_option linter.unusedSimpArgs false
namespace Go.Proofs.Ytdfjpnpkgigolaa.Pure
open Go.RowKit Go.Proofs.Ytdfjpnpkgigolaa.PFnExactDecodeInts Go.Proofs.YtdfjpnpkgigolaaW.PrintWords Go.Proofs.YtdfjpnpkgigolaaW.PrintLast Go.Proofs.YtdfjpnpkgigolaaW.PrintMore

theorem wrap_id {x : Int} (h1 : -9223372036854775808 ≤ x) (h2 : x < 9223372036854775808) : wrap64 x = x := by unfold wrap64; omega
theorem rd_nat (l : List Int) (i : Nat) (h : i < l.length) : rd l (i : Int) = l[i] := by
  unfold rd; rw [Int.toNat_natCast, List.getD_eq_getElem?_getD, List.getElem?_eq_getElem h]; rfl
theorem wf64 {x : Int} (h : (Lit.int .i64 x).wf = true) : -9223372036854775808 ≤ x ∧ x < 9223372036854775808 := by
  have h1 : IntKind.i64.min = -9223372036854775808 := by decide
  have h2 : IntKind.i64.max = 9223372036854775807 := by decide
  simp only [Lit.wf, h1, h2, Bool.and_eq_true, decide_eq_true_eq] at h
  omega
theorem wf8 {x : Int} (h : (Lit.int .u8 x).wf = true) : 0 ≤ x ∧ x < 256 := by
  have h1 : IntKind.u8.min = 0 := by decide
  have h2 : IntKind.u8.max = 255 := by decide
  simp only [Lit.wf, h1, h2, Bool.and_eq_true, decide_eq_true_eq] at h
  omega
theorem set_take (l x : List Int) (i : Nat) (h : i < l.length) (hx : x.length = l.length) (ht : x.take i = l.take i) : (x.set i l[i]).take (i + 1) = l.take (i + 1) := by
  apply List.ext_getElem?
  intro j
  simp only [List.getElem?_take, List.getElem?_set]
  have hj : (x.take i)[j]? = (l.take i)[j]? := by rw [ht]
  simp only [List.getElem?_take] at hj
  by_cases h1 : j < i + 1
  · rw [if_pos h1, if_pos h1]
    by_cases h2 : i = j
    · subst h2; rw [if_pos rfl, if_pos (by omega), List.getElem?_eq_getElem h]
    · rw [if_neg h2]; rw [if_pos (by omega), if_pos (by omega)] at hj; exact hj
  · rw [if_neg h1, if_neg h1]
theorem drop_eq_cons (l : List Int) (i : Nat) (h : i < l.length) : l.drop i = l[i] :: l.drop (i + 1) := List.drop_eq_getElem_cons h
theorem cons_iff {a b : Int} (e : a = b) (l x : List Int) : (a :: l = b :: x) ↔ l = x := by
  rw [e]
  exact ⟨fun h => (List.cons.inj h).2, fun h => by rw [h]⟩
theorem take_full (l x : List Int) (i : Nat) (hi : l.length ≤ i) (hx : x.length = l.length) (ht : x.take i = l.take i) : x = l := by
  rwa [List.take_of_length_le (by omega), List.take_of_length_le hi] at ht

theorem toByteS_l0 (l : List Int) (hl : l.length ≤ 1048576) (d : Nat) : ∀ (i : Nat) (x : List Int), l.length - i = d → i ≤ l.length → x.length = l.length → x.take i = l.take i → Ev (fun k => laws_toByteS.l0 k l x (i : Int)) l := by
  induction d with
  | zero =>
    intro i x hd hi hx ht
    obtain rfl := take_full l x i (by omega) hx ht
    refine Ev.step (f := fun _ => some x) (fun k => ?_) (Ev.now x)
    simp only [laws_toByteS.l0]
    rw [if_neg (by omega)]
  | succ d ih =>
    intro i x hd hi hx ht
    have h : i < l.length := by omega
    refine Ev.step (f := fun k => laws_toByteS.l0 k l (x.set i l[i]) ((i + 1 : Nat) : Int)) (fun k => ?_) (ih (i + 1) _ (by omega) (by omega) (by simpa using hx) (set_take l x i h hx ht))
    simp only [laws_toByteS.l0]
    rw [if_pos (by omega), if_pos (by omega), if_pos (by omega), rd_nat l i h, wrap_id (by omega) (by omega), Int.toNat_natCast]
    rfl
theorem toByteS_ev (l : List Int) (hl : l.length ≤ 1048576) : Ev (fun k => laws_toByteS.f k l) l := by
  refine Ev.congr (f := fun k => laws_toByteS.l0 k l (List.replicate l.length 0) ((0 : Nat) : Int)) (fun k => ?_) (toByteS_l0 l hl l.length 0 _ (by omega) (by omega) (by simp) (by simp))
  unfold laws_toByteS.f
  rw [if_pos (by omega), Int.toNat_natCast, if_pos (by omega)]
  rfl

theorem eqByteS_l0 (l x : List Int) (hl : l.length ≤ 16777216) (hx : x.length = l.length) (d : Nat) : ∀ (i : Nat), l.length - i = d → i ≤ l.length → Ev (fun k => laws_eqByteS.l0 k l x (i : Int)) (decide (l.drop i = x.drop i)) := by
  induction d with
  | zero =>
    intro i hd hi
    rw [List.drop_eq_nil_of_le (by omega), List.drop_eq_nil_of_le (by omega), decide_eq_true rfl]
    refine Ev.step (f := fun _ => some true) (fun k => ?_) (Ev.now true)
    simp only [laws_eqByteS.l0]
    rw [if_neg (by omega)]
  | succ d ih =>
    intro i hd hi
    have h : i < l.length := by omega
    have h' : i < x.length := by omega
    rw [drop_eq_cons l i h, drop_eq_cons x i h']
    by_cases e : l[i] = x[i]
    · rw [decide_eq_decide.2 (cons_iff e _ _)]
      refine Ev.step (f := fun k => laws_eqByteS.l0 k l x ((i + 1 : Nat) : Int)) (fun k => ?_) (ih (i + 1) (by omega) (by omega))
      simp only [laws_eqByteS.l0]
      rw [if_pos (by omega), if_pos (by omega), if_pos (by omega), rd_nat l i h, rd_nat x i h', if_pos e, wrap_id (by omega) (by omega)]
      rfl
    · rw [decide_eq_false fun h => e (List.cons.inj h).1]
      refine Ev.step (f := fun _ => some false) (fun k => ?_) (Ev.now false)
      simp only [laws_eqByteS.l0]
      rw [if_pos (by omega), if_pos (by omega), if_pos (by omega), rd_nat l i h, rd_nat x i h', if_neg e]
theorem eqByteS_ev (l x : List Int) (hl : l.length ≤ 16777216) : Ev (fun k => laws_eqByteS.f k l x) (decide (l = x)) := by
  by_cases e : l.length = x.length
  · refine Ev.congr (f := fun k => laws_eqByteS.l0 k l x ((0 : Nat) : Int)) (fun k => ?_) (by simpa using eqByteS_l0 l x hl e.symm l.length 0 (by omega) (by omega))
    unfold laws_eqByteS.f
    rw [if_pos (by omega)]
    rfl
  · rw [decide_eq_false (fun h => e (by rw [h]))]
    refine Ev.congr (f := fun _ => some false) (fun k => ?_) (Ev.now false)
    unfold laws_eqByteS.f
    rw [if_neg (by omega)]
theorem eqByteS_self (l : List Int) (hl : l.length ≤ 16777216) : Ev (fun k => laws_eqByteS.f k l l) true := by
  simpa using eqByteS_ev l l hl

theorem eqIntS_l0 (l x : List Int) (hl : l.length ≤ 16777216) (hx : x.length = l.length) (d : Nat) : ∀ (i : Nat), l.length - i = d → i ≤ l.length → Ev (fun k => laws_eqIntS.l0 k l x (i : Int)) (decide (l.drop i = x.drop i)) := by
  induction d with
  | zero =>
    intro i hd hi
    rw [List.drop_eq_nil_of_le (by omega), List.drop_eq_nil_of_le (by omega), decide_eq_true rfl]
    refine Ev.step (f := fun _ => some true) (fun k => ?_) (Ev.now true)
    simp only [laws_eqIntS.l0]
    rw [if_neg (by omega)]
  | succ d ih =>
    intro i hd hi
    have h : i < l.length := by omega
    have h' : i < x.length := by omega
    rw [drop_eq_cons l i h, drop_eq_cons x i h']
    by_cases e : l[i] = x[i]
    · rw [decide_eq_decide.2 (cons_iff e _ _)]
      refine Ev.step (f := fun k => laws_eqIntS.l0 k l x ((i + 1 : Nat) : Int)) (fun k => ?_) (ih (i + 1) (by omega) (by omega))
      simp only [laws_eqIntS.l0]
      rw [if_pos (by omega), if_pos (by omega), if_pos (by omega), rd_nat l i h, rd_nat x i h', if_pos e, wrap_id (by omega) (by omega)]
      rfl
    · rw [decide_eq_false fun h => e (List.cons.inj h).1]
      refine Ev.step (f := fun _ => some false) (fun k => ?_) (Ev.now false)
      simp only [laws_eqIntS.l0]
      rw [if_pos (by omega), if_pos (by omega), if_pos (by omega), rd_nat l i h, rd_nat x i h', if_neg e]
theorem eqIntS_ev (l x : List Int) (hl : l.length ≤ 16777216) : Ev (fun k => laws_eqIntS.f k l x) (decide (l = x)) := by
  by_cases e : l.length = x.length
  · refine Ev.congr (f := fun k => laws_eqIntS.l0 k l x ((0 : Nat) : Int)) (fun k => ?_) (by simpa using eqIntS_l0 l x hl e.symm l.length 0 (by omega) (by omega))
    unfold laws_eqIntS.f
    rw [if_pos (by omega)]
    rfl
  · rw [decide_eq_false (fun h => e (by rw [h]))]
    refine Ev.congr (f := fun _ => some false) (fun k => ?_) (Ev.now false)
    unfold laws_eqIntS.f
    rw [if_neg (by omega)]
theorem eqIntS_self (l : List Int) (hl : l.length ≤ 16777216) : Ev (fun k => laws_eqIntS.f k l l) true := by
  simpa using eqIntS_ev l l hl

theorem markByteS_l0 (d : Nat) : ∀ (x : List Int) (a : Int) (i : Nat), x.length ≤ 16777216 → x.length - i = d → i ≤ x.length → 0 < a → a + d < 1073741824 → ∃ y : List Int, y.length = x.length ∧ (∀ j : Nat, j < i → rd y j = rd x j) ∧ (∀ j : Nat, i ≤ j → j < x.length → rd y j = (a + (j - i : Nat)) % 256) ∧ Ev (fun k => laws_markByteS.l0 k x a (i : Int)) (a + d, y) := by
  induction d with
  | zero =>
    intro x a i hl hd hi h0 h1
    refine ⟨x, rfl, fun _ _ => rfl, fun j h2 h3 => by omega, ?_⟩
    refine Ev.step (f := fun _ => some (a, x)) (fun k => ?_) (by simpa using Ev.now (a, x))
    simp only [laws_markByteS.l0]
    rw [if_neg (by omega)]
  | succ d ih =>
    intro x a i hl hd hi h0 h1
    have h : i < x.length := by omega
    obtain ⟨y, hy, hy1, hy2, hy3⟩ := ih (x.set i (a % 256)) (a + 1) (i + 1) (by simpa using hl) (by simp; omega) (by simp; omega) (by omega) (by omega)
    refine ⟨y, by simpa using hy, fun j hj => ?_, fun j h2 h3 => ?_, ?_⟩
    · rw [hy1 j (by omega), rd_nat _ j (by simp; omega), rd_nat _ j (by omega), List.getElem_set_ne (by omega)]
    · by_cases e : i = j
      · subst e
        rw [hy1 i (by omega), rd_nat _ i (by simp; omega), List.getElem_set_self]
        simp
      · rw [hy2 j (by omega) (by simpa using h3)]
        have : a + 1 + ((j - (i + 1) : Nat) : Int) = a + ((j - i : Nat) : Int) := by omega
        rw [this]
    · have e : a + ((d + 1 : Nat) : Int) = a + 1 + (d : Int) := by omega
      rw [e]
      refine Ev.step (f := fun k => laws_markByteS.l0 k (x.set i (a % 256)) (a + 1) ((i + 1 : Nat) : Int)) (fun k => ?_) hy3
      simp only [laws_markByteS.l0]
      rw [if_pos (by omega), if_pos (by omega), wrap_id (x := a + 1) (by omega) (by omega), wrap_id (x := (i : Int) + 1) (by omega) (by omega), Int.toNat_natCast]
      rfl
theorem markByteS_ev (x : List Int) (a : Int) (hl : x.length ≤ 16777216) (h0 : 0 < a) (h1 : a + x.length < 1073741824) : ∃ y : List Int, y.length = x.length ∧ (∀ j : Nat, j < y.length → rd y j = (a + (j : Nat)) % 256) ∧ Ev (fun k => laws_markByteS.f k x a) (a + (x.length : Int), y) := by
  obtain ⟨y, hy, _, hy2, hy3⟩ := markByteS_l0 x.length x a 0 hl (by omega) (by omega) h0 (by omega)
  exact ⟨y, hy, fun j hj => by simpa using hy2 j (by omega) (by omega), Ev.congr (f := fun k => laws_markByteS.l0 k x a ((0 : Nat) : Int)) (fun k => rfl) hy3⟩

theorem markIntS_l0 (d : Nat) : ∀ (x : List Int) (a : Int) (i : Nat), x.length ≤ 16777216 → x.length - i = d → i ≤ x.length → 0 < a → a + d < 1073741824 → ∃ y : List Int, y.length = x.length ∧ (∀ j : Nat, j < i → rd y j = rd x j) ∧ (∀ j : Nat, i ≤ j → j < x.length → rd y j = a + (j - i : Nat)) ∧ Ev (fun k => laws_markIntS.l0 k x a (i : Int)) (a + d, y) := by
  induction d with
  | zero =>
    intro x a i hl hd hi h0 h1
    refine ⟨x, rfl, fun _ _ => rfl, fun j h2 h3 => by omega, ?_⟩
    refine Ev.step (f := fun _ => some (a, x)) (fun k => ?_) (by simpa using Ev.now (a, x))
    simp only [laws_markIntS.l0]
    rw [if_neg (by omega)]
  | succ d ih =>
    intro x a i hl hd hi h0 h1
    have h : i < x.length := by omega
    obtain ⟨y, hy, hy1, hy2, hy3⟩ := ih (x.set i (a)) (a + 1) (i + 1) (by simpa using hl) (by simp; omega) (by simp; omega) (by omega) (by omega)
    refine ⟨y, by simpa using hy, fun j hj => ?_, fun j h2 h3 => ?_, ?_⟩
    · rw [hy1 j (by omega), rd_nat _ j (by simp; omega), rd_nat _ j (by omega), List.getElem_set_ne (by omega)]
    · by_cases e : i = j
      · subst e
        rw [hy1 i (by omega), rd_nat _ i (by simp; omega), List.getElem_set_self]
        simp
      · rw [hy2 j (by omega) (by simpa using h3)]
        have : a + 1 + ((j - (i + 1) : Nat) : Int) = a + ((j - i : Nat) : Int) := by omega
        rw [this]
    · have e : a + ((d + 1 : Nat) : Int) = a + 1 + (d : Int) := by omega
      rw [e]
      refine Ev.step (f := fun k => laws_markIntS.l0 k (x.set i (a)) (a + 1) ((i + 1 : Nat) : Int)) (fun k => ?_) hy3
      simp only [laws_markIntS.l0]
      rw [if_pos (by omega), if_pos (by omega), wrap_id (x := a + 1) (by omega) (by omega), wrap_id (x := (i : Int) + 1) (by omega) (by omega), Int.toNat_natCast]
      rfl
theorem markIntS_ev (x : List Int) (a : Int) (hl : x.length ≤ 16777216) (h0 : 0 < a) (h1 : a + x.length < 1073741824) : ∃ y : List Int, y.length = x.length ∧ (∀ j : Nat, j < y.length → rd y j = a + (j : Nat)) ∧ Ev (fun k => laws_markIntS.f k x a) (a + (x.length : Int), y) := by
  obtain ⟨y, hy, _, hy2, hy3⟩ := markIntS_l0 x.length x a 0 hl (by omega) (by omega) h0 (by omega)
  exact ⟨y, hy, fun j hj => by simpa using hy2 j (by omega) (by omega), Ev.congr (f := fun k => laws_markIntS.l0 k x a ((0 : Nat) : Int)) (fun k => rfl) hy3⟩

theorem heldIntS_l0 (d : Nat) : ∀ (y : List Int) (a : Int) (i : Nat), y.length ≤ 16777216 → y.length - i = d → i ≤ y.length → 0 < a → a + d < 1073741824 → (∀ j : Nat, i ≤ j → j < y.length → rd y j = a + (j - i : Nat)) → Ev (fun k => laws_heldIntS.l0 k y a (i : Int)) (a + d) := by
  induction d with
  | zero =>
    intro y a i hl hd hi h0 h1 hy
    refine Ev.step (f := fun _ => some a) (fun k => ?_) (by simpa using Ev.now a)
    simp only [laws_heldIntS.l0]
    rw [if_neg (by omega)]
  | succ d ih =>
    intro y a i hl hd hi h0 h1 hy
    have e : a + ((d + 1 : Nat) : Int) = a + 1 + (d : Int) := by omega
    rw [e]
    have hri := hy i (by omega) (by omega)
    simp only [Nat.sub_self, Int.natCast_zero, Int.add_zero] at hri
    refine Ev.step (f := fun k => laws_heldIntS.l0 k y (a + 1) ((i + 1 : Nat) : Int)) (fun k => ?_) (ih y (a + 1) (i + 1) hl (by omega) (by omega) (by omega) (by omega) fun j h2 h3 => ?_)
    · simp only [laws_heldIntS.l0]
      rw [if_pos (by omega), if_pos (by omega), if_pos hri, wrap_id (x := a + 1) (by omega) (by omega), wrap_id (x := (i : Int) + 1) (by omega) (by omega)]
      rfl
    · rw [hy j (by omega) h3]
      have : a + 1 + ((j - (i + 1) : Nat) : Int) = a + ((j - i : Nat) : Int) := by omega
      rw [this]
theorem heldIntS_ev (y : List Int) (a : Int) (n : Nat) (hn : y.length = n) (hl : n ≤ 16777216) (h0 : 0 < a) (h1 : a + n < 1073741824) (hy : ∀ j : Nat, j < y.length → rd y j = a + (j : Nat)) : Ev (fun k => laws_heldIntS.f k y a) (a + (n : Int)) := by
  refine Ev.congr (f := fun k => laws_heldIntS.l0 k y a ((0 : Nat) : Int)) (fun k => rfl) ?_
  exact heldIntS_l0 n y a 0 (by omega) (by omega) (by omega) h0 h1 fun j _ hj => by simpa using hy j hj

theorem l1In_eq (a b c : Int) : spec_l1In.f a b c = some (decide (b ≤ a ∧ a ≤ c)) := by
  unfold spec_l1In.f
  by_cases h : a ≥ b
  · rw [if_pos h]; congr 1; by_cases h2 : a ≤ c <;> simp [h2] <;> omega
  · rw [if_neg h]; congr 1; simp; omega
theorem InRange_eq (a b c : Int) : impl_InRange.f a b c = some (decide (b ≤ a ∧ a ≤ c)) := by
  unfold impl_InRange.f
  by_cases h : b ≤ a
  · rw [if_pos h]; congr 1; by_cases h2 : a ≤ c <;> simp [h2] <;> omega
  · rw [if_neg h]; congr 1; simp; omega

theorem or_small (i : Nat) (hi : i ≤ 42) (n c : Int) (h0 : 0 ≤ n) (h1 : n < 2 ^ i) (hc0 : 0 ≤ c) (hc1 : c < 128) : Go.bits .or .i64 n (c * 2 ^ i) = n + c * 2 ^ i := by
  have hcomm : Go.bits .or .i64 n (c * 2 ^ i) = Go.bits .or .i64 (c * 2 ^ i) n := by
    simp only [Go.bits, BitVec.or_comm]
  have hp : (0 : Int) < 2 ^ i := Int.pow_pos (by decide)
  have hle : (2 : Int) ^ i ≤ 2 ^ 42 := by exact_mod_cast Nat.pow_le_pow_right (by decide) hi
  have e42 : (2 : Int) ^ 42 = 4398046511104 := by decide
  have e62 : (2 : Int) ^ 62 = 4611686018427387904 := by decide
  have hb : c * 2 ^ i ≤ 127 * 4398046511104 := by
    have h2 : c * 2 ^ i ≤ 127 * 2 ^ i := Int.mul_le_mul_of_nonneg_right (by omega) (Int.le_of_lt hp)
    omega
  have hnn : 0 ≤ c * 2 ^ i := Int.mul_nonneg hc0 (Int.le_of_lt hp)
  rw [hcomm, Go.bits_join .i64 62 (by decide) (fun n h0 h1 => by rw [Go.IntKind.wrap_i64]; omega) i (c * 2 ^ i) n hnn (Int.mul_emod_left _ _) (by omega) h0 h1 (by omega)]
  omega
theorem shl_small' (i : Nat) (hi : i ≤ 42) (c : Int) (hc0 : 0 ≤ c) (hc1 : c < 128) : shl .i64 c (i : Int) = c * 2 ^ i := by
  unfold shl
  have hp : (0 : Int) < 2 ^ i := Int.pow_pos (by decide)
  have hle : (2 : Int) ^ i ≤ 2 ^ 42 := by exact_mod_cast Nat.pow_le_pow_right (by decide) hi
  have e42 : (2 : Int) ^ 42 = 4398046511104 := by decide
  have hb : c * 2 ^ i ≤ 127 * 4398046511104 := by
    have h2 : c * 2 ^ i ≤ 127 * 2 ^ i := Int.mul_le_mul_of_nonneg_right (by omega) (Int.le_of_lt hp)
    omega
  have hnn : 0 ≤ c * 2 ^ i := Int.mul_nonneg hc0 (Int.le_of_lt hp)
  have hm : min (i : Int).toNat IntKind.i64.bits = i := by
    have : IntKind.i64.bits = 64 := rfl
    rw [this, Int.toNat_natCast]
    omega
  rw [hm, Go.IntKind.wrap_i64]
  omega
theorem and127 (c : Int) (h0 : 0 ≤ c) (h1 : c < 256) : Go.bits .and .i64 c 127 = c % 128 := by
  have := Go.bits_mask .i64 62 (by decide) (fun n h0 h1 => by rw [Go.IntKind.wrap_i64]; have : (2 : Int) ^ 62 = 4611686018427387904 := by decide
                                                              omega) 7 (by decide) c h0 (by have : (2 : Int) ^ 62 = 4611686018427387904 := by decide
                                                                                            omega)
  simpa using this
/-- The varint at place p: from its i-th byte on, n being what has been read. -/
def ruv (l : List Int) (p : Nat) : Nat → Nat → Int → Int × Int × Bool
  | 0, _, _ => (0, 0, false)
  | d + 1, i, n =>
    if (l.length : Int) ≤ (p : Int) + i then (0, 0, false)
    else if rd l ((p + i : Nat) : Int) < 128 then
      (if (0 < i ∧ rd l ((p + i : Nat) : Int) = 0) ∨ n + rd l ((p + i : Nat) : Int) % 128 * 2 ^ (7 * i) > 1000000000000 then (0, 0, false)
       else (n + rd l ((p + i : Nat) : Int) % 128 * 2 ^ (7 * i), (p : Int) + i + 1, true))
    else ruv l p d (i + 1) (n + rd l ((p + i : Nat) : Int) % 128 * 2 ^ (7 * i))
def ruvOf (l : List Int) (a : Int) : Int × Int × Bool := if 0 ≤ a ∧ a < l.length then ruv l a.toNat 6 0 0 else (0, 0, false)
theorem rd_byte (l : List Int) (w : ∀ x ∈ l, (Lit.int .u8 x).wf = true) (p : Nat) (h : p < l.length) : 0 ≤ rd l (p : Int) ∧ rd l (p : Int) < 256 := by
  rw [rd_nat l p h]
  exact wf8 (w _ (List.getElem_mem h))
theorem pow7 (i : Nat) : (2 : Int) ^ (7 * (i + 1)) = 128 * 2 ^ (7 * i) := by
  rw [show 7 * (i + 1) = 7 * i + 7 from by omega, Int.pow_add, Int.mul_comm]
  rfl
theorem ruv_next (i : Nat) (n c : Int) (h0 : 0 ≤ n) (h1 : n < 2 ^ (7 * i)) : 0 ≤ n + c % 128 * 2 ^ (7 * i) ∧ n + c % 128 * 2 ^ (7 * i) < 2 ^ (7 * (i + 1)) := by
  have hp : (0 : Int) < 2 ^ (7 * i) := Int.pow_pos (by decide)
  have h2 : c % 128 * 2 ^ (7 * i) ≤ 127 * 2 ^ (7 * i) := Int.mul_le_mul_of_nonneg_right (by omega) (Int.le_of_lt hp)
  have h3 : 0 ≤ c % 128 * 2 ^ (7 * i) := Int.mul_nonneg (by omega) (Int.le_of_lt hp)
  rw [pow7]
  omega
theorem ruv_spec (l : List Int) (p : Nat) (d : Nat) : ∀ (i : Nat) (n : Int), 0 ≤ n → n < 2 ^ (7 * i) →
    (ruv l p d i n = (0, 0, false) ∨ ∃ m q : Int, ruv l p d i n = (m, q, true) ∧ 0 ≤ m ∧ m ≤ 1000000000000 ∧ (p : Int) < q ∧ q ≤ l.length) := by
  induction d with
  | zero => intro i n _ _; exact .inl rfl
  | succ d ih =>
    intro i n h0 h1
    simp only [ruv]
    have hn := ruv_next i n (rd l ((p + i : Nat) : Int)) h0 h1
    by_cases c1 : (l.length : Int) ≤ (p : Int) + i
    · rw [if_pos c1]; exact .inl rfl
    · rw [if_neg c1]
      by_cases c2 : rd l ((p + i : Nat) : Int) < 128
      · rw [if_pos c2]
        by_cases c3 : (0 < i ∧ rd l ((p + i : Nat) : Int) = 0) ∨ n + rd l ((p + i : Nat) : Int) % 128 * 2 ^ (7 * i) > 1000000000000
        · rw [if_pos c3]; exact .inl rfl
        · rw [if_neg c3]
          refine .inr ⟨_, _, rfl, hn.1, by omega, by omega, by omega⟩
      · rw [if_neg c2]
        exact ih (i + 1) _ hn.1 hn.2
theorem ruvOf_spec (l : List Int) (a : Int) : ruvOf l a = (0, 0, false) ∨ ∃ m q : Int, ruvOf l a = (m, q, true) ∧ 0 ≤ m ∧ m ≤ 1000000000000 ∧ 0 ≤ a ∧ a < q ∧ q ≤ l.length := by
  unfold ruvOf
  by_cases c : 0 ≤ a ∧ a < l.length
  · rw [if_pos c]
    rcases ruv_spec l a.toNat 6 0 0 (by decide) (by decide) with h | ⟨m, q, h, h1, h2, h3, h4⟩
    · exact .inl h
    · exact .inr ⟨m, q, h, h1, h2, c.1, by omega, h4⟩
  · rw [if_neg c]; exact .inl rfl

theorem specRuv_l0 (l : List Int) (hl : l.length ≤ 16777216) (w : ∀ x ∈ l, (Lit.int .u8 x).wf = true) (p : Nat) (hp : p < l.length) (d : Nat) : ∀ (i : Nat) (n : Int), i + d = 6 → 0 ≤ n → n < 2 ^ (7 * i) → Ev (fun k => spec_ReadUvarint.l0 k l (p : Int) n (i : Int)) (ruv l p d i n) := by
  induction d with
  | zero =>
    intro i n hd h0 h1
    refine Ev.step (f := fun _ => some (0, 0, false)) (fun k => ?_) (Ev.now _)
    simp only [spec_ReadUvarint.l0]
    rw [if_neg (by omega)]
  | succ d ih =>
    intro i n hd h0 h1
    refine Ev.step (f := fun k => spec_ReadUvarint.j1 k l (p : Int) n (i : Int) (decide ((l.length : Int) ≤ (p : Int) + i))) (fun k => ?_) ?_
    · simp only [spec_ReadUvarint.l0]
      rw [if_pos (by omega), if_neg (by omega), wrap_id (x := (l.length : Int) - i) (by omega) (by omega)]
      have : decide ((p : Int) ≥ (l.length : Int) - i) = decide ((l.length : Int) ≤ (p : Int) + i) := decide_eq_decide.2 (by omega)
      rw [this]
    · by_cases c1 : (l.length : Int) ≤ (p : Int) + i
      · have e : ruv l p (d + 1) i n = (0, 0, false) := by simp only [ruv]; rw [if_pos c1]
        rw [e]
        refine Ev.step (f := fun _ => some (0, 0, false)) (fun k => ?_) (Ev.now _)
        simp only [spec_ReadUvarint.j1]
        rw [if_pos (decide_eq_true c1)]
      · have hb := rd_byte l w (p + i) (by omega)
        have hpi : (p : Int) + i = ((p + i : Nat) : Int) := by omega
        have h7 : wrap64 (7 * (i : Int)) = ((7 * i : Nat) : Int) := by rw [wrap_id (by omega) (by omega)]; omega
        have hw1 : wrap64 ((p : Int) + i) = ((p + i : Nat) : Int) := by rw [wrap_id (by omega) (by omega)]; omega
        have hor : Go.bits .or .i64 n (shl .i64 (Go.bits .and .i64 (rd l ((p + i : Nat) : Int)) 127) ((7 * i : Nat) : Int)) = n + rd l ((p + i : Nat) : Int) % 128 * 2 ^ (7 * i) := by
          rw [and127 _ hb.1 hb.2, shl_small' (7 * i) (by omega) _ (by omega) (by omega), or_small (7 * i) (by omega) n _ h0 h1 (by omega) (by omega)]
        have hn := ruv_next i n (rd l ((p + i : Nat) : Int)) h0 h1
        by_cases c2 : rd l ((p + i : Nat) : Int) < 128
        · by_cases c3 : (0 < i ∧ rd l ((p + i : Nat) : Int) = 0) ∨ n + rd l ((p + i : Nat) : Int) % 128 * 2 ^ (7 * i) > 1000000000000
          · have e : ruv l p (d + 1) i n = (0, 0, false) := by simp only [ruv]; rw [if_neg c1, if_pos c2, if_pos c3]
            rw [e]
            refine Ev.step (f := fun _ => some (0, 0, false)) (fun k => ?_) (Ev.now _)
            simp only [spec_ReadUvarint.j1, hw1, h7]
            rw [if_neg (by simpa using c1), if_pos (by omega), if_pos (by omega), if_pos (by omega), wrap_id (x := rd l ((p + i : Nat) : Int)) (by omega) (by omega), if_pos c2, hor]
            by_cases c4 : rd l ((p + i : Nat) : Int) = 0
            · rw [if_pos c4]
              by_cases c5 : (i : Int) > 0
              · rw [if_pos c5]
              · rw [if_neg c5, if_pos (by rcases c3 with c3 | c3; exact absurd c3.1 (by omega); exact c3)]
            · rw [if_neg c4, if_pos (by rcases c3 with c3 | c3; exact absurd c3.2 c4; exact c3)]
          · have e : ruv l p (d + 1) i n = (n + rd l ((p + i : Nat) : Int) % 128 * 2 ^ (7 * i), (p : Int) + i + 1, true) := by simp only [ruv]; rw [if_neg c1, if_pos c2, if_neg c3]
            rw [e]
            refine Ev.step (f := fun _ => some (n + rd l ((p + i : Nat) : Int) % 128 * 2 ^ (7 * i), (p : Int) + i + 1, true)) (fun k => ?_) (Ev.now _)
            simp only [spec_ReadUvarint.j1, hw1, h7]
            rw [if_neg (by simpa using c1), if_pos (by omega), if_pos (by omega), if_pos (by omega), wrap_id (x := rd l ((p + i : Nat) : Int)) (by omega) (by omega), if_pos c2, hor, wrap_id (x := ((p + i : Nat) : Int) + 1) (by omega) (by omega), if_neg (fun h => c3 (.inr h)), hpi]
            by_cases c4 : rd l ((p + i : Nat) : Int) = 0
            · rw [if_pos c4, if_neg (fun h => c3 (.inl ⟨by omega, c4⟩))]
            · rw [if_neg c4]
        · have e : ruv l p (d + 1) i n = ruv l p d (i + 1) (n + rd l ((p + i : Nat) : Int) % 128 * 2 ^ (7 * i)) := by simp only [ruv]; rw [if_neg c1, if_neg c2]
          rw [e]
          refine Ev.step (f := fun k => spec_ReadUvarint.l0 k l (p : Int) (n + rd l ((p + i : Nat) : Int) % 128 * 2 ^ (7 * i)) ((i + 1 : Nat) : Int)) (fun k => ?_) (ih (i + 1) _ (by omega) hn.1 hn.2)
          simp only [spec_ReadUvarint.j1, hw1, h7]
          rw [if_neg (by simpa using c1), if_pos (by omega), if_pos (by omega), if_pos (by omega), wrap_id (x := rd l ((p + i : Nat) : Int)) (by omega) (by omega), if_neg c2, hor, wrap_id (x := (i : Int) + 1) (by omega) (by omega)]
          rfl
theorem specRuv_ev (l : List Int) (a : Int) (hl : l.length ≤ 16777216) (w : ∀ x ∈ l, (Lit.int .u8 x).wf = true) (wa : (Lit.int .i64 a).wf = true) : Ev (fun k => spec_ReadUvarint.f k l a) (ruvOf l a) := by
  have ha := wf64 wa
  unfold spec_ReadUvarint.f ruvOf
  by_cases c : 0 ≤ a ∧ a < l.length
  · rw [if_pos c]
    have := specRuv_l0 l hl w a.toNat (by omega) 6 0 0 (by omega) (by omega) (by simp)
    rw [Int.toNat_of_nonneg c.1] at this
    exact this
  · rw [if_neg c]
    by_cases c2 : a < 0
    · refine Ev.step (f := fun k => spec_ReadUvarint.j1 k l a 0 0 true) (fun k => ?_) ?_
      · simp only [spec_ReadUvarint.l0]
        rw [if_pos (by omega), if_pos c2]
      · refine Ev.step (f := fun _ => some (0, 0, false)) (fun k => ?_) (Ev.now _)
        simp only [spec_ReadUvarint.j1, if_true]
    · refine Ev.step (f := fun k => spec_ReadUvarint.j1 k l a 0 0 true) (fun k => ?_) ?_
      · simp only [spec_ReadUvarint.l0]
        rw [if_pos (by omega), if_neg c2, wrap_id (x := (l.length : Int) - 0) (by omega) (by omega), decide_eq_true (show a ≥ (l.length : Int) - 0 by omega)]
      · refine Ev.step (f := fun _ => some (0, 0, false)) (fun k => ?_) (Ev.now _)
        simp only [spec_ReadUvarint.j1, if_true]

theorem at_eq (a b : Int) : impl_at.f a b = some (decide (0 ≤ a ∧ a < b)) := by
  unfold impl_at.f
  by_cases h : a ≥ 0
  · rw [if_pos h]; congr 1; by_cases h2 : a < b <;> simp [h2] <;> omega
  · rw [if_neg h]; congr 1; simp; omega
theorem implRuv_l0 (l : List Int) (hl : l.length ≤ 16777216) (w : ∀ x ∈ l, (Lit.int .u8 x).wf = true) (p : Nat) (hp : p < l.length) (d : Nat) : ∀ (i : Nat) (n : Int), i + d = 6 → 0 ≤ n → n < 2 ^ (7 * i) → Ev (fun k => impl_ReadUvarint.l0 k l (p : Int) n (i : Int)) (ruv l p d i n) := by
  induction d with
  | zero =>
    intro i n hd h0 h1
    refine Ev.step (f := fun _ => some (0, 0, false)) (fun k => ?_) (Ev.now _)
    simp only [impl_ReadUvarint.l0]
    rw [if_neg (by omega)]
  | succ d ih =>
    intro i n hd h0 h1
    have hpi : (p : Int) + i = ((p + i : Nat) : Int) := by omega
    have hw1 : wrap64 ((p : Int) + i) = ((p + i : Nat) : Int) := by rw [wrap_id (by omega) (by omega)]; omega
    by_cases c1 : (l.length : Int) ≤ (p : Int) + i
    · have e : ruv l p (d + 1) i n = (0, 0, false) := by simp only [ruv]; rw [if_pos c1]
      rw [e]
      refine Ev.step (f := fun _ => some (0, 0, false)) (fun k => ?_) (Ev.now _)
      simp only [impl_ReadUvarint.l0, hw1]
      rw [if_pos (by omega), if_pos (by omega)]
    · have hb := rd_byte l w (p + i) (by omega)
      have h7 : wrap64 (7 * (i : Int)) = ((7 * i : Nat) : Int) := by rw [wrap_id (by omega) (by omega)]; omega
      have hor : Go.bits .or .i64 n (shl .i64 (Go.bits .and .i64 (rd l ((p + i : Nat) : Int)) 127) ((7 * i : Nat) : Int)) = n + rd l ((p + i : Nat) : Int) % 128 * 2 ^ (7 * i) := by
        rw [and127 _ hb.1 hb.2, shl_small' (7 * i) (by omega) _ (by omega) (by omega), or_small (7 * i) (by omega) n _ h0 h1 (by omega) (by omega)]
      have hn := ruv_next i n (rd l ((p + i : Nat) : Int)) h0 h1
      by_cases c2 : rd l ((p + i : Nat) : Int) < 128
      · by_cases c3 : (0 < i ∧ rd l ((p + i : Nat) : Int) = 0) ∨ n + rd l ((p + i : Nat) : Int) % 128 * 2 ^ (7 * i) > 1000000000000
        · have e : ruv l p (d + 1) i n = (0, 0, false) := by simp only [ruv]; rw [if_neg c1, if_pos c2, if_pos c3]
          rw [e]
          refine Ev.step (f := fun _ => some (0, 0, false)) (fun k => ?_) (Ev.now _)
          simp only [impl_ReadUvarint.l0, hw1, h7]
          rw [if_pos (by omega), if_neg (by omega), if_pos (by omega), if_pos (by omega), if_pos (by omega), wrap_id (x := rd l ((p + i : Nat) : Int)) (by omega) (by omega), if_pos c2, hor]
          by_cases c4 : (i : Int) > 0
          · rw [if_pos c4]
            by_cases c5 : rd l ((p + i : Nat) : Int) = 0
            · rw [if_pos c5]
            · rw [if_neg c5, if_pos (by rcases c3 with c3 | c3; exact absurd c3.2 c5; exact c3)]
          · rw [if_neg c4, if_pos (by rcases c3 with c3 | c3; exact absurd c3.1 (by omega); exact c3)]
        · have e : ruv l p (d + 1) i n = (n + rd l ((p + i : Nat) : Int) % 128 * 2 ^ (7 * i), (p : Int) + i + 1, true) := by simp only [ruv]; rw [if_neg c1, if_pos c2, if_neg c3]
          rw [e]
          refine Ev.step (f := fun _ => some (n + rd l ((p + i : Nat) : Int) % 128 * 2 ^ (7 * i), (p : Int) + i + 1, true)) (fun k => ?_) (Ev.now _)
          simp only [impl_ReadUvarint.l0, hw1, h7]
          rw [if_pos (by omega), if_neg (by omega), if_pos (by omega), if_pos (by omega), if_pos (by omega), wrap_id (x := rd l ((p + i : Nat) : Int)) (by omega) (by omega), if_pos c2, hor, wrap_id (x := ((p + i : Nat) : Int) + 1) (by omega) (by omega), if_neg (fun h => c3 (.inr h)), hpi]
          by_cases c4 : (i : Int) > 0
          · rw [if_pos c4, if_neg (fun h => c3 (.inl ⟨by omega, h⟩))]
          · rw [if_neg c4]
      · have e : ruv l p (d + 1) i n = ruv l p d (i + 1) (n + rd l ((p + i : Nat) : Int) % 128 * 2 ^ (7 * i)) := by simp only [ruv]; rw [if_neg c1, if_neg c2]
        rw [e]
        refine Ev.step (f := fun k => impl_ReadUvarint.l0 k l (p : Int) (n + rd l ((p + i : Nat) : Int) % 128 * 2 ^ (7 * i)) ((i + 1 : Nat) : Int)) (fun k => ?_) (ih (i + 1) _ (by omega) hn.1 hn.2)
        simp only [impl_ReadUvarint.l0, hw1, h7]
        rw [if_pos (by omega), if_neg (by omega), if_pos (by omega), if_pos (by omega), if_pos (by omega), wrap_id (x := rd l ((p + i : Nat) : Int)) (by omega) (by omega), if_neg c2, hor, wrap_id (x := (i : Int) + 1) (by omega) (by omega)]
        rfl
theorem implRuv_ev (l : List Int) (a : Int) (hl : l.length ≤ 16777216) (w : ∀ x ∈ l, (Lit.int .u8 x).wf = true) : Ev (fun k => impl_ReadUvarint.f k l a) (ruvOf l a) := by
  unfold impl_ReadUvarint.f ruvOf
  simp only [at_eq, Option.bind_some]
  by_cases c : 0 ≤ a ∧ a < l.length
  · simp only [decide_eq_true c, if_true, if_pos c]
    have := implRuv_l0 l hl w a.toNat (by omega) 6 0 0 (by omega) (by omega) (by simp)
    rw [Int.toNat_of_nonneg c.1] at this
    exact this
  · simp only [decide_eq_false c, Bool.false_eq_true, if_false, if_neg c]
    exact Ev.now _

def di (l : List Int) : Nat → Int → List Int → List Int × Int × Bool
  | 0, a, acc => (acc, a, true)
  | d + 1, a, acc => if (ruvOf l a).2.2 = true then di l d (ruvOf l a).2.1 (acc ++ [(ruvOf l a).1]) else ([], 0, false)
def diOf (l : List Int) (a c : Int) : List Int × Int × Bool := if (0 ≤ c ∧ c ≤ 100) ∧ 0 ≤ a ∧ a ≤ l.length then di l c.toNat a [] else ([], 0, false)
theorem di_len (l : List Int) (d : Nat) : ∀ (a : Int) (acc : List Int), (di l d a acc).1.length ≤ acc.length + d := by
  induction d with
  | zero => intro a acc; simp [di]
  | succ d ih =>
    intro a acc
    simp only [di]
    split
    · have := ih (ruvOf l a).2.1 (acc ++ [(ruvOf l a).1])
      simp only [List.length_append, List.length_cons, List.length_nil] at this
      omega
    · simp
theorem diOf_len (l : List Int) (a c : Int) : (diOf l a c).1.length ≤ 100 := by
  unfold diOf
  split
  · have := di_len l c.toNat a []
    simp only [List.length_nil] at this
    omega
  · simp
theorem specDi_l0 (l : List Int) (hl : l.length ≤ 8388608) (w : ∀ x ∈ l, (Lit.int .u8 x).wf = true) (c : Nat) (hc : c ≤ 100) (d : Nat) : ∀ (i : Nat) (a : Int) (acc : List Int), i + d = c → 0 ≤ a → a ≤ l.length → acc.length = i → Ev (fun k => spec_DecodeInts.l0 k l a (c : Int) acc (i : Int)) (di l d a acc) := by
  induction d with
  | zero =>
    intro i a acc hd h0 h1 ha
    refine Ev.step (f := fun _ => some (acc, a, true)) (fun k => ?_) (Ev.now _)
    simp only [spec_DecodeInts.l0]
    rw [if_neg (by omega)]
  | succ d ih =>
    intro i a acc hd h0 h1 ha
    have wa : (Lit.int .i64 a).wf = true := by
      have h1 : IntKind.i64.min = -9223372036854775808 := by decide
      have h2 : IntKind.i64.max = 9223372036854775807 := by decide
      simp only [Lit.wf, h1, h2, Bool.and_eq_true, decide_eq_true_eq]
      omega
    refine Ev.step (f := fun k => (spec_ReadUvarint.f k l a).bind fun t => if t.2.2 = true then (if acc.length < 17592186044416 then spec_DecodeInts.l0 k l t.2.1 (c : Int) (acc ++ [t.1]) ((i + 1 : Nat) : Int) else none) else some ([], 0, false)) (fun k => ?_) (Ev.bind (specRuv_ev l a (by omega) w wa) ?_)
    · simp only [spec_DecodeInts.l0]
      rw [if_pos (by omega), wrap_id (x := (i : Int) + 1) (by omega) (by omega)]
      rfl
    · simp only [di]
      rcases ruvOf_spec l a with h | ⟨n, q, h, h2, h3, h4, h5, h6⟩
      · simp only [h, Bool.false_eq_true, if_false]
        exact Ev.now _
      · simp only [h, if_true, if_pos (show acc.length < 17592186044416 by omega)]
        exact ih (i + 1) q (acc ++ [n]) (by omega) (by omega) h6 (by simp [ha])
theorem implDi_l0 (l : List Int) (hl : l.length ≤ 8388608) (w : ∀ x ∈ l, (Lit.int .u8 x).wf = true) (c : Nat) (hc : c ≤ 100) (d : Nat) : ∀ (i : Nat) (a : Int) (acc : List Int), i + d = c → 0 ≤ a → a ≤ l.length → acc.length = i → Ev (fun k => impl_DecodeInts.l0 k l a acc (c : Int) (i : Int)) (di l d a acc) := by
  induction d with
  | zero =>
    intro i a acc hd h0 h1 ha
    refine Ev.step (f := fun _ => some (acc, a, true)) (fun k => ?_) (Ev.now _)
    simp only [impl_DecodeInts.l0]
    rw [if_neg (by omega)]
  | succ d ih =>
    intro i a acc hd h0 h1 ha
    refine Ev.step (f := fun k => (impl_ReadUvarint.f k l a).bind fun t => if t.2.2 = true then (if acc.length < 17592186044416 then impl_DecodeInts.l0 k l t.2.1 (acc ++ [t.1]) (c : Int) ((i + 1 : Nat) : Int) else none) else some ([], 0, false)) (fun k => ?_) (Ev.bind (implRuv_ev l a (by omega) w) ?_)
    · simp only [impl_DecodeInts.l0]
      rw [if_pos (by omega), wrap_id (x := (i : Int) + 1) (by omega) (by omega)]
      rfl
    · simp only [di]
      rcases ruvOf_spec l a with h | ⟨n, q, h, h2, h3, h4, h5, h6⟩
      · simp only [h, Bool.false_eq_true, if_false]
        exact Ev.now _
      · simp only [h, if_true, if_pos (show acc.length < 17592186044416 by omega)]
        exact ih (i + 1) q (acc ++ [n]) (by omega) (by omega) h6 (by simp [ha])
theorem specDi_ev (l : List Int) (a c : Int) (hl : l.length ≤ 8388608) (w : ∀ x ∈ l, (Lit.int .u8 x).wf = true) : Ev (fun k => spec_DecodeInts.f k l a c) (diOf l a c) := by
  unfold spec_DecodeInts.f diOf
  simp only [Option.bind_some, l1In_eq]
  by_cases c1 : 0 ≤ c ∧ c ≤ 100
  · by_cases c2 : 0 ≤ a ∧ a ≤ (l.length : Int)
    · simp only [decide_eq_true c1, decide_eq_true c2, if_true, Bool.not_true, if_pos (And.intro c1 c2)]
      refine Ev.step (fun k => spec_DecodeInts.j0.eq_2 _ _ _ _ _ _) ?_
      simp only [Bool.false_eq_true, if_false]
      have := specDi_l0 l hl w c.toNat (by omega) c.toNat 0 a [] (by omega) c2.1 c2.2 rfl
      rw [Int.toNat_of_nonneg c1.1] at this
      exact this
    · simp only [decide_eq_true c1, decide_eq_false c2, if_true, Bool.not_false, if_neg (fun h : (0 ≤ c ∧ c ≤ 100) ∧ 0 ≤ a ∧ a ≤ (l.length : Int) => c2 h.2)]
      refine Ev.step (fun k => spec_DecodeInts.j0.eq_2 _ _ _ _ _ _) ?_
      simp only [if_true]
      exact Ev.now _
  · simp only [decide_eq_false c1, Bool.false_eq_true, if_false, if_neg (fun h : (0 ≤ c ∧ c ≤ 100) ∧ 0 ≤ a ∧ a ≤ (l.length : Int) => c1 h.1)]
    refine Ev.step (fun k => spec_DecodeInts.j0.eq_2 _ _ _ _ _ _) ?_
    simp only [if_true]
    exact Ev.now _
theorem implDi_ev (l : List Int) (a c : Int) (hl : l.length ≤ 8388608) (w : ∀ x ∈ l, (Lit.int .u8 x).wf = true) : Ev (fun k => impl_DecodeInts.f k l a c) (diOf l a c) := by
  unfold impl_DecodeInts.f diOf
  simp only [InRange_eq, Option.bind_some]
  by_cases c1 : 0 ≤ c ∧ c ≤ 100
  · by_cases c2 : 0 ≤ a ∧ a ≤ (l.length : Int)
    · simp only [decide_eq_true c1, decide_eq_true c2, if_true, Bool.not_true, if_pos (And.intro c1 c2)]
      refine Ev.step (fun k => impl_DecodeInts.j0.eq_2 _ _ _ _ _) ?_
      simp only [Bool.false_eq_true, if_false]
      have := implDi_l0 l hl w c.toNat (by omega) c.toNat 0 a [] (by omega) c2.1 c2.2 rfl
      rw [Int.toNat_of_nonneg c1.1] at this
      exact this
    · simp only [decide_eq_true c1, decide_eq_false c2, if_true, Bool.not_false, if_neg (fun h : (0 ≤ c ∧ c ≤ 100) ∧ 0 ≤ a ∧ a ≤ (l.length : Int) => c2 h.2)]
      refine Ev.step (fun k => impl_DecodeInts.j0.eq_2 _ _ _ _ _) ?_
      simp only [if_true]
      exact Ev.now _
  · simp only [decide_eq_false c1, Bool.false_eq_true, if_false, if_neg (fun h : (0 ≤ c ∧ c ≤ 100) ∧ 0 ≤ a ∧ a ≤ (l.length : Int) => c1 h.1)]
    refine Ev.step (fun k => impl_DecodeInts.j0.eq_2 _ _ _ _ _) ?_
    simp only [if_true]
    exact Ev.now _

theorem FnExactDecodeInts : laws_FnExactDecodeInts.Pure := by
  intro l0 a1 a2 _ _ w0 w1 _
  refine Ev.rounds ?_
  unfold laws_FnExactDecodeInts.f
  by_cases c_l0 : (l0.length : Int) > 1048576
  · simp only [if_pos c_l0]; exact Ev.now true
  have b_l0 : l0.length ≤ 1048576 := by omega
  simp only [if_neg c_l0]
  have hR : (diOf l0 a1 a2).1.length ≤ 16000000 := by have := diOf_len l0 a1 a2; omega
  refine Ev.bind (toByteS_ev l0 b_l0) ?_
  refine Ev.bind (specDi_ev l0 a1 a2 (by omega) w0) ?_
  refine Ev.bind (toByteS_ev l0 b_l0) ?_
  refine Ev.bind (implDi_ev l0 a1 a2 (by omega) w0) ?_
  refine Ev.bind (eqIntS_self ((diOf l0 a1 a2).1) (by have := hR; omega)) ?_
  simp only [if_true, bne_self_eq_false, Bool.not_true, Bool.false_eq_true, if_false]
  refine Ev.step (fun k => laws_FnExactDecodeInts.j0.eq_2 _ _ _ _ _ _ _ _ _ _ _ _) ?_
  simp only [Bool.false_eq_true, if_false]
  refine Ev.bind (toByteS_ev l0 b_l0) ?_
  refine Ev.bind (eqByteS_self l0 (by omega)) ?_
  simp only [if_true]
  obtain ⟨y_l0, hy_l0, _, m_l0⟩ := markByteS_ev l0 (1) (by omega) (by omega) (by omega)
  refine Ev.bind m_l0 ?_
  simp only [if_neg (show ¬ (1 + (l0.length : Int) < 0) by omega)]
  refine Ev.bind (eqIntS_self ((diOf l0 a1 a2).1) (by have := hR; omega)) ?_
  simp only [if_true, bne_self_eq_false, Bool.not_true, Bool.false_eq_true, if_false]
  refine Ev.step (fun k => laws_FnExactDecodeInts.j1.eq_2 _ _ _ _ _ _ _ _ _) ?_
  simp only [Bool.false_eq_true, if_false]
  obtain ⟨z0, hz0, hm0, q0⟩ := markIntS_ev ((diOf l0 a1 a2).1) (1) (by have := hR; omega) (by omega) (by have := hR; omega)
  have e0 := heldIntS_ev z0 (1) _ hz0 (by have := hR; omega) (by omega) (by have := hR; omega) hm0
  refine Ev.bind q0 ?_
  refine Ev.bind e0 ?_
  simp only [if_neg (show ¬ (1 + (((diOf l0 a1 a2).1).length : Int) < 0) by omega), if_true]
  refine Ev.bind (toByteS_ev l0 b_l0) ?_
  refine Ev.bind (implDi_ev l0 a1 a2 (by omega) w0) ?_
  refine Ev.bind (eqIntS_self ((diOf l0 a1 a2).1) (by have := hR; omega)) ?_
  simp only [if_true, bne_self_eq_false, Bool.not_true, Bool.false_eq_true, if_false]
  refine Ev.step (fun k => laws_FnExactDecodeInts.j2.eq_2 _ _ _ _) ?_
  simp only [Bool.false_eq_true, if_false]
  refine Ev.bind e0 ?_
  simp only [if_neg (show ¬ (1 + (((diOf l0 a1 a2).1).length : Int) < 0) by omega), if_true]
  exact Ev.now true

end Go.Proofs.Ytdfjpnpkgigolaa.Pure
