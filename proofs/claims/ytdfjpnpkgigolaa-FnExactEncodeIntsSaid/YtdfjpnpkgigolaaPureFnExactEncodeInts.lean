/-
  For all arguments, the program's EncodeInts returns what the reference's EncodeInts returns.
  Conditions: none beside the given statement's own.
-/
import Derived.Test.YtdfjpnpkgigolaaPFnExactEncodeIntsx2
set_option linter.unusedSimpArgs false
namespace Go.Proofs.Ytdfjpnpkgigolaa.Pure
open Go.RowKit Go.Proofs.Ytdfjpnpkgigolaa.PFnExactEncodeInts Go.Proofs.YtdfjpnpkgigolaaW.PrintWords Go.Proofs.YtdfjpnpkgigolaaW.PrintLast Go.Proofs.YtdfjpnpkgigolaaW.PrintMore

theorem wrap_id {x : Int} (h1 : -9223372036854775808 ≤ x) (h2 : x < 9223372036854775808) : wrap64 x = x := by unfold wrap64; omega
theorem rd_nat (l : List Int) (i : Nat) (h : i < l.length) : rd l (i : Int) = l[i] := by
  unfold rd; rw [Int.toNat_natCast, List.getD_eq_getElem?_getD, List.getElem?_eq_getElem h]; rfl
theorem wf64 {x : Int} (h : (Lit.int .i64 x).wf = true) : -9223372036854775808 ≤ x ∧ x < 9223372036854775808 := by
  have h1 : IntKind.i64.min = -9223372036854775808 := by decide
  have h2 : IntKind.i64.max = 9223372036854775807 := by decide
  simp only [Lit.wf, h1, h2, Bool.and_eq_true, decide_eq_true_eq] at h
  omega
theorem wf8 {x : Int} (h : (Lit.int .u8 x).wf = true) : 0 ≤ x ∧ x < 256 := by
  have h1 : IntKind.u8.min = 0 := by decide
  have h2 : IntKind.u8.max = 255 := by decide
  simp only [Lit.wf, h1, h2, Bool.and_eq_true, decide_eq_true_eq] at h
  omega
theorem set_take (l x : List Int) (i : Nat) (h : i < l.length) (hx : x.length = l.length) (ht : x.take i = l.take i) : (x.set i l[i]).take (i + 1) = l.take (i + 1) := by
  apply List.ext_getElem?
  intro j
  simp only [List.getElem?_take, List.getElem?_set]
  have hj : (x.take i)[j]? = (l.take i)[j]? := by rw [ht]
  simp only [List.getElem?_take] at hj
  by_cases h1 : j < i + 1
  · rw [if_pos h1, if_pos h1]
    by_cases h2 : i = j
    · subst h2; rw [if_pos rfl, if_pos (by omega), List.getElem?_eq_getElem h]
    · rw [if_neg h2]; rw [if_pos (by omega), if_pos (by omega)] at hj; exact hj
  · rw [if_neg h1, if_neg h1]
theorem drop_eq_cons (l : List Int) (i : Nat) (h : i < l.length) : l.drop i = l[i] :: l.drop (i + 1) := List.drop_eq_getElem_cons h
theorem cons_iff {a b : Int} (e : a = b) (l x : List Int) : (a :: l = b :: x) ↔ l = x := by
  rw [e]
  exact ⟨fun h => (List.cons.inj h).2, fun h => by rw [h]⟩
theorem take_full (l x : List Int) (i : Nat) (hi : l.length ≤ i) (hx : x.length = l.length) (ht : x.take i = l.take i) : x = l := by
  rwa [List.take_of_length_le (by omega), List.take_of_length_le hi] at ht

theorem toIntS_l0 (l : List Int) (hl : l.length ≤ 1048576) (d : Nat) : ∀ (i : Nat) (x : List Int), l.length - i = d → i ≤ l.length → x.length = l.length → x.take i = l.take i → Ev (fun k => laws_toIntS.l0 k l x (i : Int)) l := by
  induction d with
  | zero =>
    intro i x hd hi hx ht
    obtain rfl := take_full l x i (by omega) hx ht
    refine Ev.step (f := fun _ => some x) (fun k => ?_) (Ev.now x)
    simp only [laws_toIntS.l0]
    rw [if_neg (by omega)]
  | succ d ih =>
    intro i x hd hi hx ht
    have h : i < l.length := by omega
    refine Ev.step (f := fun k => laws_toIntS.l0 k l (x.set i l[i]) ((i + 1 : Nat) : Int)) (fun k => ?_) (ih (i + 1) _ (by omega) (by omega) (by simpa using hx) (set_take l x i h hx ht))
    simp only [laws_toIntS.l0]
    rw [if_pos (by omega), if_pos (by omega), if_pos (by omega), rd_nat l i h, wrap_id (by omega) (by omega), Int.toNat_natCast]
    rfl
theorem toIntS_ev (l : List Int) (hl : l.length ≤ 1048576) : Ev (fun k => laws_toIntS.f k l) l := by
  refine Ev.congr (f := fun k => laws_toIntS.l0 k l (List.replicate l.length 0) ((0 : Nat) : Int)) (fun k => ?_) (toIntS_l0 l hl l.length 0 _ (by omega) (by omega) (by simp) (by simp))
  unfold laws_toIntS.f
  rw [if_pos (by omega), Int.toNat_natCast, if_pos (by omega)]
  rfl

theorem eqIntS_l0 (l x : List Int) (hl : l.length ≤ 16777216) (hx : x.length = l.length) (d : Nat) : ∀ (i : Nat), l.length - i = d → i ≤ l.length → Ev (fun k => laws_eqIntS.l0 k l x (i : Int)) (decide (l.drop i = x.drop i)) := by
  induction d with
  | zero =>
    intro i hd hi
    rw [List.drop_eq_nil_of_le (by omega), List.drop_eq_nil_of_le (by omega), decide_eq_true rfl]
    refine Ev.step (f := fun _ => some true) (fun k => ?_) (Ev.now true)
    simp only [laws_eqIntS.l0]
    rw [if_neg (by omega)]
  | succ d ih =>
    intro i hd hi
    have h : i < l.length := by omega
    have h' : i < x.length := by omega
    rw [drop_eq_cons l i h, drop_eq_cons x i h']
    by_cases e : l[i] = x[i]
    · rw [decide_eq_decide.2 (cons_iff e _ _)]
      refine Ev.step (f := fun k => laws_eqIntS.l0 k l x ((i + 1 : Nat) : Int)) (fun k => ?_) (ih (i + 1) (by omega) (by omega))
      simp only [laws_eqIntS.l0]
      rw [if_pos (by omega), if_pos (by omega), if_pos (by omega), rd_nat l i h, rd_nat x i h', if_pos e, wrap_id (by omega) (by omega)]
      rfl
    · rw [decide_eq_false fun h => e (List.cons.inj h).1]
      refine Ev.step (f := fun _ => some false) (fun k => ?_) (Ev.now false)
      simp only [laws_eqIntS.l0]
      rw [if_pos (by omega), if_pos (by omega), if_pos (by omega), rd_nat l i h, rd_nat x i h', if_neg e]
theorem eqIntS_ev (l x : List Int) (hl : l.length ≤ 16777216) : Ev (fun k => laws_eqIntS.f k l x) (decide (l = x)) := by
  by_cases e : l.length = x.length
  · refine Ev.congr (f := fun k => laws_eqIntS.l0 k l x ((0 : Nat) : Int)) (fun k => ?_) (by simpa using eqIntS_l0 l x hl e.symm l.length 0 (by omega) (by omega))
    unfold laws_eqIntS.f
    rw [if_pos (by omega)]
    rfl
  · rw [decide_eq_false (fun h => e (by rw [h]))]
    refine Ev.congr (f := fun _ => some false) (fun k => ?_) (Ev.now false)
    unfold laws_eqIntS.f
    rw [if_neg (by omega)]
theorem eqIntS_self (l : List Int) (hl : l.length ≤ 16777216) : Ev (fun k => laws_eqIntS.f k l l) true := by
  simpa using eqIntS_ev l l hl

theorem eqByteS_l0 (l x : List Int) (hl : l.length ≤ 16777216) (hx : x.length = l.length) (d : Nat) : ∀ (i : Nat), l.length - i = d → i ≤ l.length → Ev (fun k => laws_eqByteS.l0 k l x (i : Int)) (decide (l.drop i = x.drop i)) := by
  induction d with
  | zero =>
    intro i hd hi
    rw [List.drop_eq_nil_of_le (by omega), List.drop_eq_nil_of_le (by omega), decide_eq_true rfl]
    refine Ev.step (f := fun _ => some true) (fun k => ?_) (Ev.now true)
    simp only [laws_eqByteS.l0]
    rw [if_neg (by omega)]
  | succ d ih =>
    intro i hd hi
    have h : i < l.length := by omega
    have h' : i < x.length := by omega
    rw [drop_eq_cons l i h, drop_eq_cons x i h']
    by_cases e : l[i] = x[i]
    · rw [decide_eq_decide.2 (cons_iff e _ _)]
      refine Ev.step (f := fun k => laws_eqByteS.l0 k l x ((i + 1 : Nat) : Int)) (fun k => ?_) (ih (i + 1) (by omega) (by omega))
      simp only [laws_eqByteS.l0]
      rw [if_pos (by omega), if_pos (by omega), if_pos (by omega), rd_nat l i h, rd_nat x i h', if_pos e, wrap_id (by omega) (by omega)]
      rfl
    · rw [decide_eq_false fun h => e (List.cons.inj h).1]
      refine Ev.step (f := fun _ => some false) (fun k => ?_) (Ev.now false)
      simp only [laws_eqByteS.l0]
      rw [if_pos (by omega), if_pos (by omega), if_pos (by omega), rd_nat l i h, rd_nat x i h', if_neg e]
theorem eqByteS_ev (l x : List Int) (hl : l.length ≤ 16777216) : Ev (fun k => laws_eqByteS.f k l x) (decide (l = x)) := by
  by_cases e : l.length = x.length
  · refine Ev.congr (f := fun k => laws_eqByteS.l0 k l x ((0 : Nat) : Int)) (fun k => ?_) (by simpa using eqByteS_l0 l x hl e.symm l.length 0 (by omega) (by omega))
    unfold laws_eqByteS.f
    rw [if_pos (by omega)]
    rfl
  · rw [decide_eq_false (fun h => e (by rw [h]))]
    refine Ev.congr (f := fun _ => some false) (fun k => ?_) (Ev.now false)
    unfold laws_eqByteS.f
    rw [if_neg (by omega)]
theorem eqByteS_self (l : List Int) (hl : l.length ≤ 16777216) : Ev (fun k => laws_eqByteS.f k l l) true := by
  simpa using eqByteS_ev l l hl

theorem markIntS_l0 (d : Nat) : ∀ (x : List Int) (a : Int) (i : Nat), x.length ≤ 16777216 → x.length - i = d → i ≤ x.length → 0 < a → a + d < 1073741824 → ∃ y : List Int, y.length = x.length ∧ (∀ j : Nat, j < i → rd y j = rd x j) ∧ (∀ j : Nat, i ≤ j → j < x.length → rd y j = a + (j - i : Nat)) ∧ Ev (fun k => laws_markIntS.l0 k x a (i : Int)) (a + d, y) := by
  induction d with
  | zero =>
    intro x a i hl hd hi h0 h1
    refine ⟨x, rfl, fun _ _ => rfl, fun j h2 h3 => by omega, ?_⟩
    refine Ev.step (f := fun _ => some (a, x)) (fun k => ?_) (by simpa using Ev.now (a, x))
    simp only [laws_markIntS.l0]
    rw [if_neg (by omega)]
  | succ d ih =>
    intro x a i hl hd hi h0 h1
    have h : i < x.length := by omega
    obtain ⟨y, hy, hy1, hy2, hy3⟩ := ih (x.set i (a)) (a + 1) (i + 1) (by simpa using hl) (by simp; omega) (by simp; omega) (by omega) (by omega)
    refine ⟨y, by simpa using hy, fun j hj => ?_, fun j h2 h3 => ?_, ?_⟩
    · rw [hy1 j (by omega), rd_nat _ j (by simp; omega), rd_nat _ j (by omega), List.getElem_set_ne (by omega)]
    · by_cases e : i = j
      · subst e
        rw [hy1 i (by omega), rd_nat _ i (by simp; omega), List.getElem_set_self]
        simp
      · rw [hy2 j (by omega) (by simpa using h3)]
        have : a + 1 + ((j - (i + 1) : Nat) : Int) = a + ((j - i : Nat) : Int) := by omega
        rw [this]
    · have e : a + ((d + 1 : Nat) : Int) = a + 1 + (d : Int) := by omega
      rw [e]
      refine Ev.step (f := fun k => laws_markIntS.l0 k (x.set i (a)) (a + 1) ((i + 1 : Nat) : Int)) (fun k => ?_) hy3
      simp only [laws_markIntS.l0]
      rw [if_pos (by omega), if_pos (by omega), wrap_id (x := a + 1) (by omega) (by omega), wrap_id (x := (i : Int) + 1) (by omega) (by omega), Int.toNat_natCast]
      rfl
theorem markIntS_ev (x : List Int) (a : Int) (hl : x.length ≤ 16777216) (h0 : 0 < a) (h1 : a + x.length < 1073741824) : ∃ y : List Int, y.length = x.length ∧ (∀ j : Nat, j < y.length → rd y j = a + (j : Nat)) ∧ Ev (fun k => laws_markIntS.f k x a) (a + (x.length : Int), y) := by
  obtain ⟨y, hy, _, hy2, hy3⟩ := markIntS_l0 x.length x a 0 hl (by omega) (by omega) h0 (by omega)
  exact ⟨y, hy, fun j hj => by simpa using hy2 j (by omega) (by omega), Ev.congr (f := fun k => laws_markIntS.l0 k x a ((0 : Nat) : Int)) (fun k => rfl) hy3⟩

theorem markByteS_l0 (d : Nat) : ∀ (x : List Int) (a : Int) (i : Nat), x.length ≤ 16777216 → x.length - i = d → i ≤ x.length → 0 < a → a + d < 1073741824 → ∃ y : List Int, y.length = x.length ∧ (∀ j : Nat, j < i → rd y j = rd x j) ∧ (∀ j : Nat, i ≤ j → j < x.length → rd y j = (a + (j - i : Nat)) % 256) ∧ Ev (fun k => laws_markByteS.l0 k x a (i : Int)) (a + d, y) := by
  induction d with
  | zero =>
    intro x a i hl hd hi h0 h1
    refine ⟨x, rfl, fun _ _ => rfl, fun j h2 h3 => by omega, ?_⟩
    refine Ev.step (f := fun _ => some (a, x)) (fun k => ?_) (by simpa using Ev.now (a, x))
    simp only [laws_markByteS.l0]
    rw [if_neg (by omega)]
  | succ d ih =>
    intro x a i hl hd hi h0 h1
    have h : i < x.length := by omega
    obtain ⟨y, hy, hy1, hy2, hy3⟩ := ih (x.set i (a % 256)) (a + 1) (i + 1) (by simpa using hl) (by simp; omega) (by simp; omega) (by omega) (by omega)
    refine ⟨y, by simpa using hy, fun j hj => ?_, fun j h2 h3 => ?_, ?_⟩
    · rw [hy1 j (by omega), rd_nat _ j (by simp; omega), rd_nat _ j (by omega), List.getElem_set_ne (by omega)]
    · by_cases e : i = j
      · subst e
        rw [hy1 i (by omega), rd_nat _ i (by simp; omega), List.getElem_set_self]
        simp
      · rw [hy2 j (by omega) (by simpa using h3)]
        have : a + 1 + ((j - (i + 1) : Nat) : Int) = a + ((j - i : Nat) : Int) := by omega
        rw [this]
    · have e : a + ((d + 1 : Nat) : Int) = a + 1 + (d : Int) := by omega
      rw [e]
      refine Ev.step (f := fun k => laws_markByteS.l0 k (x.set i (a % 256)) (a + 1) ((i + 1 : Nat) : Int)) (fun k => ?_) hy3
      simp only [laws_markByteS.l0]
      rw [if_pos (by omega), if_pos (by omega), wrap_id (x := a + 1) (by omega) (by omega), wrap_id (x := (i : Int) + 1) (by omega) (by omega), Int.toNat_natCast]
      rfl
theorem markByteS_ev (x : List Int) (a : Int) (hl : x.length ≤ 16777216) (h0 : 0 < a) (h1 : a + x.length < 1073741824) : ∃ y : List Int, y.length = x.length ∧ (∀ j : Nat, j < y.length → rd y j = (a + (j : Nat)) % 256) ∧ Ev (fun k => laws_markByteS.f k x a) (a + (x.length : Int), y) := by
  obtain ⟨y, hy, _, hy2, hy3⟩ := markByteS_l0 x.length x a 0 hl (by omega) (by omega) h0 (by omega)
  exact ⟨y, hy, fun j hj => by simpa using hy2 j (by omega) (by omega), Ev.congr (f := fun k => laws_markByteS.l0 k x a ((0 : Nat) : Int)) (fun k => rfl) hy3⟩

theorem heldByteS_l0 (d : Nat) : ∀ (y : List Int) (a : Int) (i : Nat), y.length ≤ 16777216 → y.length - i = d → i ≤ y.length → 0 < a → a + d < 1073741824 → (∀ j : Nat, i ≤ j → j < y.length → rd y j = (a + (j - i : Nat)) % 256) → Ev (fun k => laws_heldByteS.l0 k y a (i : Int)) (a + d) := by
  induction d with
  | zero =>
    intro y a i hl hd hi h0 h1 hy
    refine Ev.step (f := fun _ => some a) (fun k => ?_) (by simpa using Ev.now a)
    simp only [laws_heldByteS.l0]
    rw [if_neg (by omega)]
  | succ d ih =>
    intro y a i hl hd hi h0 h1 hy
    have e : a + ((d + 1 : Nat) : Int) = a + 1 + (d : Int) := by omega
    rw [e]
    have hri := hy i (by omega) (by omega)
    simp only [Nat.sub_self, Int.natCast_zero, Int.add_zero] at hri
    refine Ev.step (f := fun k => laws_heldByteS.l0 k y (a + 1) ((i + 1 : Nat) : Int)) (fun k => ?_) (ih y (a + 1) (i + 1) hl (by omega) (by omega) (by omega) (by omega) fun j h2 h3 => ?_)
    · simp only [laws_heldByteS.l0]
      rw [if_pos (by omega), if_pos (by omega), if_pos hri, wrap_id (x := a + 1) (by omega) (by omega), wrap_id (x := (i : Int) + 1) (by omega) (by omega)]
      rfl
    · rw [hy j (by omega) h3]
      have : a + 1 + ((j - (i + 1) : Nat) : Int) = a + ((j - i : Nat) : Int) := by omega
      rw [this]
theorem heldByteS_ev (y : List Int) (a : Int) (n : Nat) (hn : y.length = n) (hl : n ≤ 16777216) (h0 : 0 < a) (h1 : a + n < 1073741824) (hy : ∀ j : Nat, j < y.length → rd y j = (a + (j : Nat)) % 256) : Ev (fun k => laws_heldByteS.f k y a) (a + (n : Int)) := by
  refine Ev.congr (f := fun k => laws_heldByteS.l0 k y a ((0 : Nat) : Int)) (fun k => rfl) ?_
  exact heldByteS_l0 n y a 0 (by omega) (by omega) (by omega) h0 h1 fun j _ hj => by simpa using hy j hj

theorem l1In_eq (a b c : Int) : spec_l1In.f a b c = some (decide (b ≤ a ∧ a ≤ c)) := by
  unfold spec_l1In.f
  by_cases h : a ≥ b
  · rw [if_pos h]; congr 1; by_cases h2 : a ≤ c <;> simp [h2] <;> omega
  · rw [if_neg h]; congr 1; simp; omega
theorem InRange_eq (a b c : Int) : impl_InRange.f a b c = some (decide (b ≤ a ∧ a ≤ c)) := by
  unfold impl_InRange.f
  by_cases h : b ≤ a
  · rw [if_pos h]; congr 1; by_cases h2 : a ≤ c <;> simp [h2] <;> omega
  · rw [if_neg h]; congr 1; simp; omega

theorem clone_eq (l : List Int) (hl : l.length ≤ 16777216) : slices_Clone_byte_byte.f l = some l := by
  unfold slices_Clone_byte_byte.f
  simp only [Option.bind_some]
  rw [if_pos (by simp; omega)]
  rfl
def uv : Nat → Int → List Int
  | 0, n => [n % 256]
  | d + 1, n => if n > 127 then (Go.bits .or .i64 (Go.bits .and .i64 n 127) 128) % 256 :: uv d (n / 128) else [n % 256]
theorem uv_len (d : Nat) : ∀ n, (uv d n).length ≤ d + 1 := by
  induction d with
  | zero => intro n; simp [uv]
  | succ d ih =>
    intro n
    simp only [uv]
    split
    · simp only [List.length_cons]; have := ih (n / 128); omega
    · simp
theorem uv_byte (d : Nat) : ∀ n, ∀ x ∈ uv d n, 0 ≤ x ∧ x < 256 := by
  induction d with
  | zero => intro n x hx; simp only [uv, List.mem_singleton] at hx; omega
  | succ d ih =>
    intro n x hx
    simp only [uv] at hx
    split at hx
    · rcases List.mem_cons.1 hx with rfl | hx
      · omega
      · exact ih _ x hx
    · simp only [List.mem_singleton] at hx; omega

theorem specUv_l0 (d : Nat) : ∀ (n : Int) (acc : List Int), 0 ≤ n → n < 128 ^ (d + 1) → acc.length + d ≤ 16777215 → Ev (fun k => spec_AppendUvarint.l0 k n acc) (acc ++ uv d n) := by
  induction d with
  | zero =>
    intro n acc h0 h1 ha
    refine Ev.step (f := fun _ => some (acc ++ uv 0 n)) (fun k => ?_) (Ev.now _)
    simp only [spec_AppendUvarint.l0, uv]
    rw [if_neg (by simp at h1; omega), if_pos (by omega)]
  | succ d ih =>
    intro n acc h0 h1 ha
    by_cases h : n > 127
    · have e : uv (d + 1) n = (Go.bits .or .i64 (Go.bits .and .i64 n 127) 128) % 256 :: uv d (n / 128) := by simp only [uv]; rw [if_pos h]
      rw [e, List.append_cons]
      refine Ev.step (f := fun k => spec_AppendUvarint.l0 k (n / 128) (acc ++ [(Go.bits .or .i64 (Go.bits .and .i64 n 127) 128) % 256])) (fun k => ?_) (ih (n / 128) (acc ++ [_]) (by omega) (by rw [Int.pow_succ] at h1; omega) (by simp; omega))
      simp only [spec_AppendUvarint.l0]
      rw [if_pos h, if_pos (by omega)]
    · have e : uv (d + 1) n = [n % 256] := by simp only [uv]; rw [if_neg h]
      rw [e]
      refine Ev.step (f := fun _ => some (acc ++ [n % 256])) (fun k => ?_) (Ev.now _)
      simp only [spec_AppendUvarint.l0]
      rw [if_neg h, if_pos (by omega)]

theorem implUv_l0 (d : Nat) : ∀ (n : Int) (acc : List Int), 0 ≤ n → n < 128 ^ (d + 1) → acc.length + d ≤ 16777215 → Ev (fun k => impl_AppendUvarint.l0 k n acc) (acc ++ uv d n) := by
  induction d with
  | zero =>
    intro n acc h0 h1 ha
    refine Ev.step (f := fun _ => some (acc ++ uv 0 n)) (fun k => ?_) (Ev.now _)
    simp only [impl_AppendUvarint.l0, uv]
    rw [if_neg (by simp at h1; omega), if_pos (by omega)]
  | succ d ih =>
    intro n acc h0 h1 ha
    by_cases h : n > 127
    · have e : uv (d + 1) n = (Go.bits .or .i64 (Go.bits .and .i64 n 127) 128) % 256 :: uv d (n / 128) := by simp only [uv]; rw [if_pos h]
      rw [e, List.append_cons]
      refine Ev.step (f := fun k => impl_AppendUvarint.l0 k (n / 128) (acc ++ [(Go.bits .or .i64 (Go.bits .and .i64 n 127) 128) % 256])) (fun k => ?_) (ih (n / 128) (acc ++ [_]) (by omega) (by rw [Int.pow_succ] at h1; omega) (by simp; omega))
      simp only [impl_AppendUvarint.l0]
      rw [if_pos h, if_pos (by omega)]
    · have e : uv (d + 1) n = [n % 256] := by simp only [uv]; rw [if_neg h]
      rw [e]
      refine Ev.step (f := fun _ => some (acc ++ [n % 256])) (fun k => ?_) (Ev.now _)
      simp only [impl_AppendUvarint.l0]
      rw [if_neg h, if_pos (by omega)]

def auvOf (l : List Int) (n : Int) : List Int := if 0 ≤ n ∧ n ≤ 1000000000000 then l ++ uv 5 n else l
theorem auvOf_len (l : List Int) (n : Int) : l.length ≤ (auvOf l n).length ∧ (auvOf l n).length ≤ l.length + 6 := by
  unfold auvOf
  split
  · have := uv_len 5 n
    simp only [List.length_append]
    omega
  · omega
theorem specAuv_ev (l : List Int) (n : Int) (hl : l.length ≤ 16777200) : Ev (fun k => spec_AppendUvarint.f k l n) (auvOf l n) := by
  unfold spec_AppendUvarint.f
  simp only [Option.bind_some, l1In_eq, List.nil_append, List.length_nil, if_pos (show 0 + l.length < 140737488355328 by omega)]
  unfold auvOf
  by_cases h : 0 ≤ n ∧ n ≤ 1000000000000
  · simp only [decide_eq_true h, if_true, if_pos h]
    exact specUv_l0 5 n l h.1 (by omega) (by omega)
  · simp only [decide_eq_false h, Bool.false_eq_true, if_false, if_neg h]
    exact Ev.now l
theorem implAuv_ev (l : List Int) (n : Int) (hl : l.length ≤ 16777200) : Ev (fun k => impl_AppendUvarint.f k l n) (auvOf l n) := by
  unfold impl_AppendUvarint.f
  simp only [clone_eq l (by omega), Option.bind_some, InRange_eq]
  unfold auvOf
  by_cases h : 0 ≤ n ∧ n ≤ 1000000000000
  · simp only [decide_eq_true h, if_true, if_pos h]
    exact implUv_l0 5 n l h.1 (by omega) (by omega)
  · simp only [decide_eq_false h, Bool.false_eq_true, if_false, if_neg h]
    exact Ev.now l

theorem specEnc_l0 (l : List Int) (hl : l.length ≤ 1048576) (d : Nat) : ∀ (i : Nat) (acc : List Int), l.length - i = d → acc.length + 6 * d ≤ 16000000 → Ev (fun k => spec_EncodeInts.l0 k l acc (i : Int)) ((l.drop i).foldl auvOf acc) := by
  induction d with
  | zero =>
    intro i acc hd ha
    rw [List.drop_eq_nil_of_le (by omega)]
    refine Ev.step (f := fun _ => some acc) (fun k => ?_) (Ev.now acc)
    simp only [spec_EncodeInts.l0]
    rw [if_neg (by omega)]
  | succ d ih =>
    intro i acc hd ha
    have h : i < l.length := by omega
    rw [drop_eq_cons l i h, List.foldl_cons]
    have hlen := auvOf_len acc l[i]
    refine Ev.step (f := fun k => (spec_AppendUvarint.f k acc l[i]).bind fun t => spec_EncodeInts.l0 k l t ((i + 1 : Nat) : Int)) (fun k => ?_) (Ev.bind (specAuv_ev acc l[i] (by omega)) (ih (i + 1) (auvOf acc l[i]) (by omega) (by omega)))
    simp only [spec_EncodeInts.l0]
    rw [if_pos (by omega), if_pos (by omega), rd_nat l i h, wrap_id (x := (i : Int) + 1) (by omega) (by omega)]
    rfl

theorem implEnc_l0 (l : List Int) (hl : l.length ≤ 1048576) (d : Nat) : ∀ (i : Nat) (acc : List Int), l.length - i = d → acc.length + 6 * d ≤ 16000000 → Ev (fun k => impl_EncodeInts.l0 k acc l (l.length : Int) (i : Int)) ((l.drop i).foldl auvOf acc) := by
  induction d with
  | zero =>
    intro i acc hd ha
    rw [List.drop_eq_nil_of_le (by omega)]
    refine Ev.step (f := fun _ => some acc) (fun k => ?_) (Ev.now acc)
    simp only [impl_EncodeInts.l0]
    rw [if_neg (by omega)]
  | succ d ih =>
    intro i acc hd ha
    have h : i < l.length := by omega
    rw [drop_eq_cons l i h, List.foldl_cons]
    have hlen := auvOf_len acc l[i]
    refine Ev.step (f := fun k => (impl_AppendUvarint.f k acc l[i]).bind fun t => impl_EncodeInts.l0 k t l (l.length : Int) ((i + 1 : Nat) : Int)) (fun k => ?_) (Ev.bind (implAuv_ev acc l[i] (by omega)) (ih (i + 1) (auvOf acc l[i]) (by omega) (by omega)))
    simp only [impl_EncodeInts.l0]
    rw [if_pos (by omega), if_pos (by omega), if_pos (by omega), rd_nat l i h, wrap_id (x := (i : Int) + 1) (by omega) (by omega)]
    rfl

theorem enc_len (l : List Int) : ∀ acc : List Int, acc.length ≤ (l.foldl auvOf acc).length ∧ (l.foldl auvOf acc).length ≤ acc.length + 6 * l.length := by
  induction l with
  | nil => intro acc; simp
  | cons a l ih =>
    intro acc
    have h1 := ih (auvOf acc a)
    have h2 := auvOf_len acc a
    simp only [List.foldl_cons, List.length_cons]
    omega
theorem specEnc_ev (l : List Int) (hl : l.length ≤ 1048576) : Ev (fun k => spec_EncodeInts.f k l) (l.foldl auvOf []) := by
  unfold spec_EncodeInts.f
  exact specEnc_l0 l hl l.length 0 [] (by omega) (by simp; omega)
theorem implEnc_ev (l : List Int) (hl : l.length ≤ 1048576) : Ev (fun k => impl_EncodeInts.f k l) (l.foldl auvOf []) := by
  unfold impl_EncodeInts.f
  exact implEnc_l0 l hl l.length 0 [] (by omega) (by simp; omega)

theorem FnExactEncodeInts : laws_FnExactEncodeInts.Pure := by
  intro l0 _ _ w0
  refine Ev.rounds ?_
  unfold laws_FnExactEncodeInts.f
  by_cases c_l0 : (l0.length : Int) > 1048576
  · simp only [if_pos c_l0]; exact Ev.now true
  have b_l0 : l0.length ≤ 1048576 := by omega
  simp only [if_neg c_l0]
  have hR : (l0.foldl auvOf []).length ≤ 16000000 := by have := enc_len l0 []; simp at this; omega
  refine Ev.bind (toIntS_ev l0 b_l0) ?_
  refine Ev.bind (specEnc_ev l0 b_l0) ?_
  refine Ev.bind (toIntS_ev l0 b_l0) ?_
  refine Ev.bind (implEnc_ev l0 b_l0) ?_
  refine Ev.bind (eqByteS_self (l0.foldl auvOf []) (by have := hR; omega)) ?_
  simp only [if_true, bne_self_eq_false, Bool.not_true, Bool.false_eq_true, if_false]
  refine Ev.bind (toIntS_ev l0 b_l0) ?_
  refine Ev.bind (eqIntS_self l0 (by omega)) ?_
  simp only [if_true]
  obtain ⟨y_l0, hy_l0, _, m_l0⟩ := markIntS_ev l0 (1) (by omega) (by omega) (by omega)
  refine Ev.bind m_l0 ?_
  simp only [if_neg (show ¬ (1 + (l0.length : Int) < 0) by omega)]
  refine Ev.bind (eqByteS_self (l0.foldl auvOf []) (by have := hR; omega)) ?_
  refine Ev.step (fun k => laws_FnExactEncodeInts.j0.eq_2 _ _ _ _ _) ?_
  simp only [Bool.not_true, Bool.false_eq_true, if_false]
  obtain ⟨z0, hz0, hm0, q0⟩ := markByteS_ev (l0.foldl auvOf []) (1) (by have := hR; omega) (by omega) (by have := hR; omega)
  have e0 := heldByteS_ev z0 (1) _ hz0 (by have := hR; omega) (by omega) (by have := hR; omega) hm0
  refine Ev.bind q0 ?_
  refine Ev.bind e0 ?_
  simp only [if_neg (show ¬ (1 + ((l0.foldl auvOf []).length : Int) < 0) by omega), if_true]
  refine Ev.bind (toIntS_ev l0 b_l0) ?_
  refine Ev.bind (implEnc_ev l0 b_l0) ?_
  refine Ev.bind (eqByteS_self (l0.foldl auvOf []) (by have := hR; omega)) ?_
  simp only [if_true, bne_self_eq_false, Bool.not_true, Bool.false_eq_true, if_false]
  refine Ev.bind e0 ?_
  simp only [if_neg (show ¬ (1 + ((l0.foldl auvOf []).length : Int) < 0) by omega), if_true]
  exact Ev.now true

end Go.Proofs.Ytdfjpnpkgigolaa.Pure
