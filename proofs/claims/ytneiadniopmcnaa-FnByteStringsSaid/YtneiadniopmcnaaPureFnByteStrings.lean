/-
  Byte strings and lists of integers are decoded from their encodings, at every drawn input.
  Conditions: none beside the given statement's own.
-/
import Derived.Test.YtneiadniopmcnaaPFnByteStringsx3
set_option linter.unusedSimpArgs false
set_option linter.unusedVariables false
namespace Go.Proofs.Ytneiadniopmcnaa.Pure
open Go.RowKit Go.Proofs.Ytneiadniopmcnaa.PFnByteStrings Go.Proofs.YtneiadniopmcnaaW.PrintWords Go.Proofs.YtneiadniopmcnaaW.PrintLast Go.Proofs.YtneiadniopmcnaaW.PrintMore

theorem wrap_id {x : Int} (h1 : -9223372036854775808 ≤ x) (h2 : x < 9223372036854775808) : wrap64 x = x := by unfold wrap64; omega
theorem rd_nat (l : List Int) (i : Nat) (h : i < l.length) : rd l (i : Int) = l[i] := by
  unfold rd; rw [Int.toNat_natCast, List.getD_eq_getElem?_getD, List.getElem?_eq_getElem h]; rfl
theorem wf64 {x : Int} (h : (Lit.int .i64 x).wf = true) : -9223372036854775808 ≤ x ∧ x < 9223372036854775808 := by
  have h1 : IntKind.i64.min = -9223372036854775808 := by decide
  have h2 : IntKind.i64.max = 9223372036854775807 := by decide
  simp only [Lit.wf, h1, h2, Bool.and_eq_true, decide_eq_true_eq] at h
  omega
theorem wf8 {x : Int} (h : (Lit.int .u8 x).wf = true) : 0 ≤ x ∧ x < 256 := by
  have h1 : IntKind.u8.min = 0 := by decide
  have h2 : IntKind.u8.max = 255 := by decide
  simp only [Lit.wf, h1, h2, Bool.and_eq_true, decide_eq_true_eq] at h
  omega
theorem set_take (l x : List Int) (i : Nat) (h : i < l.length) (hx : x.length = l.length) (ht : x.take i = l.take i) : (x.set i l[i]).take (i + 1) = l.take (i + 1) := by
  apply List.ext_getElem?
  intro j
  simp only [List.getElem?_take, List.getElem?_set]
  have hj : (x.take i)[j]? = (l.take i)[j]? := by rw [ht]
  simp only [List.getElem?_take] at hj
  by_cases h1 : j < i + 1
  · rw [if_pos h1, if_pos h1]
    by_cases h2 : i = j
    · subst h2; rw [if_pos rfl, if_pos (by omega), List.getElem?_eq_getElem h]
    · rw [if_neg h2]; rw [if_pos (by omega), if_pos (by omega)] at hj; exact hj
  · rw [if_neg h1, if_neg h1]
theorem drop_eq_cons (l : List Int) (i : Nat) (h : i < l.length) : l.drop i = l[i] :: l.drop (i + 1) := List.drop_eq_getElem_cons h
theorem cons_iff {a b : Int} (e : a = b) (l x : List Int) : (a :: l = b :: x) ↔ l = x := by
  rw [e]
  exact ⟨fun h => (List.cons.inj h).2, fun h => by rw [h]⟩
theorem take_full (l x : List Int) (i : Nat) (hi : l.length ≤ i) (hx : x.length = l.length) (ht : x.take i = l.take i) : x = l := by
  rwa [List.take_of_length_le (by omega), List.take_of_length_le hi] at ht

theorem to_wf8 {x : Int} (h0 : 0 ≤ x) (h1 : x < 256) : (Lit.int .u8 x).wf = true := by
  have h1 : IntKind.u8.min = 0 := by decide
  have h2 : IntKind.u8.max = 255 := by decide
  simp only [Lit.wf, h1, h2, Bool.and_eq_true, decide_eq_true_eq]
  omega
theorem to_wf64 {x : Int} (h0 : -9223372036854775808 ≤ x) (h1 : x < 9223372036854775808) : (Lit.int .i64 x).wf = true := by
  have h1 : IntKind.i64.min = -9223372036854775808 := by decide
  have h2 : IntKind.i64.max = 9223372036854775807 := by decide
  simp only [Lit.wf, h1, h2, Bool.and_eq_true, decide_eq_true_eq]
  omega

theorem InRange_eq (a b c : Int) : impl_InRange.f a b c = some (decide (b ≤ a ∧ a ≤ c)) := by
  unfold impl_InRange.f
  by_cases h : b ≤ a
  · rw [if_pos h]; congr 1; by_cases h2 : a ≤ c <;> simp [h2] <;> omega
  · rw [if_neg h]; congr 1; simp; omega

theorem big_eq (l : List Int) : laws_big.f l = some (decide ((l.length : Int) > 1048576)) := rfl

theorem and255 (x : Int) : 0 ≤ Go.bits .and .i64 x 255 ∧ Go.bits .and .i64 x 255 ≤ 255 := by
  have h : (BitVec.ofInt IntKind.i64.bits x &&& BitVec.ofInt IntKind.i64.bits 255).toNat ≤ 255 := by
    rw [BitVec.toNat_and]
    exact Nat.le_trans Nat.and_le_right (by decide)
  have e : Go.bits .and .i64 x 255 = IntKind.i64.wrap ((BitVec.ofInt IntKind.i64.bits x &&& BitVec.ofInt IntKind.i64.bits 255).toNat : Int) := rfl
  rw [e, Go.IntKind.wrap_i64]
  omega
/-- The cursor of a draw lies in its bytes. -/
def Cur (b : List Int) (s : Int) : Prop := 0 ≤ s ∧ s ≤ b.length
theorem l1Byte_ok (b : List Int) (hb : b.length ≤ 1048576) (s h : Int) (hs : Cur b s) : ∃ x s' h', spec_l1Byte.f b s h = some (x, s', h') ∧ 0 ≤ x ∧ x ≤ 255 ∧ Cur b s' := by
  have hs0 := hs.1
  have hs1 := hs.2
  unfold spec_l1Byte.f
  by_cases c : s < (b.length : Int)
  · rw [if_pos c, if_pos hs.1]
    have hw : wrap64 (s + 1) = s + 1 := wrap_id (by omega) (by omega)
    rw [hw]
    exact ⟨_, _, _, rfl, (and255 _).1, (and255 _).2, ⟨by omega, by omega⟩⟩
  · rw [if_neg c]
    exact ⟨_, _, _, rfl, (and255 _).1, (and255 _).2, hs⟩
theorem l1Below_ok (b : List Int) (hb : b.length ≤ 1048576) (s h n : Int) (hs : Cur b s) : ∃ x s' h', spec_l1Below.f b s h n = some (x, s', h') ∧ 0 ≤ x ∧ (0 < n → x < n) ∧ Cur b s' := by
  unfold spec_l1Below.f
  by_cases c : n ≤ 0
  · rw [if_pos c]; exact ⟨0, s, h, rfl, by omega, fun h => by omega, hs⟩
  · rw [if_neg c]
    by_cases c2 : n ≤ 256
    · rw [if_pos c2]
      obtain ⟨x, s', h', e, h0, h1, hc⟩ := l1Byte_ok b hb s h hs
      rw [e]
      simp only [Option.bind_some]
      rw [if_neg (by omega), Int.tmod_eq_emod_of_nonneg h0]
      exact ⟨_, _, _, rfl, Int.emod_nonneg _ (by omega), fun h => Int.emod_lt_of_pos _ h, hc⟩
    · rw [if_neg c2]
      obtain ⟨x, s1, h1, e1, a0, a1, hc1⟩ := l1Byte_ok b hb s h hs
      obtain ⟨y, s2, h2, e2, b0, b1, hc2⟩ := l1Byte_ok b hb s1 h1 hc1
      obtain ⟨z, s3, h3, e3, d0, d1, hc3⟩ := l1Byte_ok b hb s2 h2 hc2
      simp only [e1, e2, e3, Option.bind_some]
      rw [if_neg (by omega), wrap_id (x := x * 65536) (by omega) (by omega), wrap_id (x := y * 256) (by omega) (by omega), wrap_id (x := x * 65536 + y * 256) (by omega) (by omega), wrap_id (x := x * 65536 + y * 256 + z) (by omega) (by omega), Int.tmod_eq_emod_of_nonneg (by omega)]
      exact ⟨_, _, _, rfl, Int.emod_nonneg _ (by omega), fun h => Int.emod_lt_of_pos _ h, hc3⟩
theorem l1New_l0 (l : List Int) (hl : l.length ≤ 1048576) (d : Nat) : ∀ (i : Nat) (h : Int), l.length - i = d → ∃ h', Ev (fun k => spec_l1New.l0 k l h (i : Int)) (l, 0, h') := by
  induction d with
  | zero =>
    intro i h hd
    refine ⟨h, Ev.step (f := fun _ => some (l, 0, h)) (fun k => ?_) (Ev.now _)⟩
    simp only [spec_l1New.l0]
    rw [if_neg (by omega)]
  | succ d ih =>
    intro i h hd
    by_cases c : (i : Int) < 4000
    · obtain ⟨h', e⟩ := ih (i + 1) (Go.bits .and .i64 (wrap64 ((wrap64 ((wrap64 (h * 137)) + (wrap64 (rd l (i : Int))))) + 11)) 1073741823) (by omega)
      refine ⟨h', Ev.step (f := fun k => spec_l1New.l0 k l _ ((i + 1 : Nat) : Int)) (fun k => ?_) e⟩
      simp only [spec_l1New.l0]
      rw [if_pos (by omega), if_pos c, if_pos (by omega), wrap_id (x := (i : Int) + 1) (by omega) (by omega)]
      rfl
    · refine ⟨h, Ev.step (f := fun _ => some (l, 0, h)) (fun k => ?_) (Ev.now _)⟩
      simp only [spec_l1New.l0]
      rw [if_pos (by omega), if_neg c]
theorem l1New_ev (l : List Int) (hl : l.length ≤ 1048576) : ∃ h', Ev (fun k => spec_l1New.f k l) (l, 0, h') := l1New_l0 l hl l.length 0 _ (by omega)
theorem cur0 (l : List Int) : Cur l 0 := ⟨by omega, by omega⟩

theorem l1Bytes_l0 (b : List Int) (hb : b.length ≤ 1048576) (n : Nat) (hn : n ≤ 1000) (d : Nat) : ∀ (i : Nat) (acc : List Int) (s h : Int), i + d = n → acc.length = i → (∀ x ∈ acc, (Lit.int .u8 x).wf = true) → Cur b s → ∃ out s' h', Ev (fun k => spec_l1Bytes.l0 k (n : Int) acc (i : Int) b s h) (out, s', h') ∧ out.length = n ∧ (∀ x ∈ out, (Lit.int .u8 x).wf = true) ∧ Cur b s' := by
  induction d with
  | zero =>
    intro i acc s h hd ha hw hs
    refine ⟨acc, s, h, Ev.step (f := fun _ => some (acc, s, h)) (fun k => ?_) (Ev.now _), by omega, hw, hs⟩
    simp only [spec_l1Bytes.l0]
    rw [if_neg (by omega)]
  | succ d ih =>
    intro i acc s h hd ha hw hs
    obtain ⟨x, s1, h1, e1, a0, a1, hc1⟩ := l1Byte_ok b hb s h hs
    obtain ⟨out, s', h', ev, r1, r2, r3⟩ := ih (i + 1) (acc ++ [x % 256]) s1 h1 (by omega) (by simp [ha]) (fun y hy => by
      rcases List.mem_append.1 hy with hy | hy
      · exact hw y hy
      · rw [List.mem_singleton.1 hy]
        exact to_wf8 (by omega) (by omega)) hc1
    refine ⟨out, s', h', Ev.step (f := fun k => spec_l1Bytes.l0 k (n : Int) (acc ++ [x % 256]) ((i + 1 : Nat) : Int) b s1 h1) (fun k => ?_) ev, r1, r2, r3⟩
    simp only [spec_l1Bytes.l0]
    rw [if_pos (by omega), e1]
    simp only [Option.bind_some]
    rw [if_pos (by omega), wrap_id (x := (i : Int) + 1) (by omega) (by omega)]
    rfl
theorem l1Bytes_ev (b : List Int) (hb : b.length ≤ 1048576) (s h n : Int) (h0 : 0 ≤ n) (hn : n ≤ 1000) (hs : Cur b s) : ∃ out s' h', Ev (fun k => spec_l1Bytes.f k b s h n) (out, s', h') ∧ (out.length : Int) = n ∧ (∀ x ∈ out, (Lit.int .u8 x).wf = true) ∧ Cur b s' := by
  obtain ⟨out, s', h', e, r1, r2, r3⟩ := l1Bytes_l0 b hb n.toNat (by omega) n.toNat 0 [] s h (by omega) rfl (by simp) hs
  rw [Int.toNat_of_nonneg h0] at e
  exact ⟨out, s', h', e, by omega, r2, r3⟩

theorem sameBytes_l0 (l x : List Int) (hl : l.length ≤ 16777216) (hx : x.length = l.length) (d : Nat) : ∀ (i : Nat), l.length - i = d → i ≤ l.length → Ev (fun k => laws_sameBytes.l0 k l x (i : Int)) (decide (l.drop i = x.drop i)) := by
  induction d with
  | zero =>
    intro i hd hi
    rw [List.drop_eq_nil_of_le (by omega), List.drop_eq_nil_of_le (by omega), decide_eq_true rfl]
    refine Ev.step (f := fun _ => some true) (fun k => ?_) (Ev.now true)
    simp only [laws_sameBytes.l0]
    rw [if_neg (by omega)]
  | succ d ih =>
    intro i hd hi
    have h : i < l.length := by omega
    have h' : i < x.length := by omega
    rw [drop_eq_cons l i h, drop_eq_cons x i h']
    by_cases e : l[i] = x[i]
    · rw [decide_eq_decide.2 (cons_iff e _ _)]
      refine Ev.step (f := fun k => laws_sameBytes.l0 k l x ((i + 1 : Nat) : Int)) (fun k => ?_) (ih (i + 1) (by omega) (by omega))
      simp only [laws_sameBytes.l0]
      rw [if_pos (by omega), if_pos (by omega), if_pos (by omega), rd_nat l i h, rd_nat x i h', if_pos e, wrap_id (by omega) (by omega)]
      rfl
    · rw [decide_eq_false fun h => e (List.cons.inj h).1]
      refine Ev.step (f := fun _ => some false) (fun k => ?_) (Ev.now false)
      simp only [laws_sameBytes.l0]
      rw [if_pos (by omega), if_pos (by omega), if_pos (by omega), rd_nat l i h, rd_nat x i h', if_neg e]
theorem sameBytes_ev (l x : List Int) (hl : l.length ≤ 16777216) : Ev (fun k => laws_sameBytes.f k l x) (decide (l = x)) := by
  by_cases e : l.length = x.length
  · refine Ev.congr (f := fun k => laws_sameBytes.l0 k l x ((0 : Nat) : Int)) (fun k => ?_) (by simpa using sameBytes_l0 l x hl e.symm l.length 0 (by omega) (by omega))
    unfold laws_sameBytes.f
    rw [if_pos (by omega)]
    rfl
  · rw [decide_eq_false (fun h => e (by rw [h]))]
    refine Ev.congr (f := fun _ => some false) (fun k => ?_) (Ev.now false)
    unfold laws_sameBytes.f
    rw [if_neg (by omega)]
theorem sameBytes_self (l : List Int) (hl : l.length ≤ 16777216) : Ev (fun k => laws_sameBytes.f k l l) true := by
  simpa using sameBytes_ev l l hl

theorem sameInts_l0 (l x : List Int) (hl : l.length ≤ 16777216) (hx : x.length = l.length) (d : Nat) : ∀ (i : Nat), l.length - i = d → i ≤ l.length → Ev (fun k => laws_sameInts.l0 k l x (i : Int)) (decide (l.drop i = x.drop i)) := by
  induction d with
  | zero =>
    intro i hd hi
    rw [List.drop_eq_nil_of_le (by omega), List.drop_eq_nil_of_le (by omega), decide_eq_true rfl]
    refine Ev.step (f := fun _ => some true) (fun k => ?_) (Ev.now true)
    simp only [laws_sameInts.l0]
    rw [if_neg (by omega)]
  | succ d ih =>
    intro i hd hi
    have h : i < l.length := by omega
    have h' : i < x.length := by omega
    rw [drop_eq_cons l i h, drop_eq_cons x i h']
    by_cases e : l[i] = x[i]
    · rw [decide_eq_decide.2 (cons_iff e _ _)]
      refine Ev.step (f := fun k => laws_sameInts.l0 k l x ((i + 1 : Nat) : Int)) (fun k => ?_) (ih (i + 1) (by omega) (by omega))
      simp only [laws_sameInts.l0]
      rw [if_pos (by omega), if_pos (by omega), if_pos (by omega), rd_nat l i h, rd_nat x i h', if_pos e, wrap_id (by omega) (by omega)]
      rfl
    · rw [decide_eq_false fun h => e (List.cons.inj h).1]
      refine Ev.step (f := fun _ => some false) (fun k => ?_) (Ev.now false)
      simp only [laws_sameInts.l0]
      rw [if_pos (by omega), if_pos (by omega), if_pos (by omega), rd_nat l i h, rd_nat x i h', if_neg e]
theorem sameInts_ev (l x : List Int) (hl : l.length ≤ 16777216) : Ev (fun k => laws_sameInts.f k l x) (decide (l = x)) := by
  by_cases e : l.length = x.length
  · refine Ev.congr (f := fun k => laws_sameInts.l0 k l x ((0 : Nat) : Int)) (fun k => ?_) (by simpa using sameInts_l0 l x hl e.symm l.length 0 (by omega) (by omega))
    unfold laws_sameInts.f
    rw [if_pos (by omega)]
    rfl
  · rw [decide_eq_false (fun h => e (by rw [h]))]
    refine Ev.congr (f := fun _ => some false) (fun k => ?_) (Ev.now false)
    unfold laws_sameInts.f
    rw [if_neg (by omega)]
theorem sameInts_self (l : List Int) (hl : l.length ≤ 16777216) : Ev (fun k => laws_sameInts.f k l l) true := by
  simpa using sameInts_ev l l hl

theorem clone_eq (l : List Int) (hl : l.length ≤ 16777216) : slices_Clone_byte_byte.f l = some l := by
  unfold slices_Clone_byte_byte.f
  simp only [Option.bind_some]
  rw [if_pos (by simp; omega)]
  rfl
def uv : Nat → Int → List Int
  | 0, n => [n % 256]
  | d + 1, n => if n > 127 then (Go.bits .or .i64 (Go.bits .and .i64 n 127) 128) % 256 :: uv d (n / 128) else [n % 256]
theorem uv_len (d : Nat) : ∀ n, (uv d n).length ≤ d + 1 := by
  induction d with
  | zero => intro n; simp [uv]
  | succ d ih =>
    intro n
    simp only [uv]
    split
    · simp only [List.length_cons]; have := ih (n / 128); omega
    · simp
theorem uv_byte (d : Nat) : ∀ n, ∀ x ∈ uv d n, 0 ≤ x ∧ x < 256 := by
  induction d with
  | zero => intro n x hx; simp only [uv, List.mem_singleton] at hx; omega
  | succ d ih =>
    intro n x hx
    simp only [uv] at hx
    split at hx
    · rcases List.mem_cons.1 hx with rfl | hx
      · omega
      · exact ih _ x hx
    · simp only [List.mem_singleton] at hx; omega

theorem implUv_l0 (d : Nat) : ∀ (n : Int) (acc : List Int), 0 ≤ n → n < 128 ^ (d + 1) → acc.length + d ≤ 16777215 → Ev (fun k => impl_AppendUvarint.l0 k n acc) (acc ++ uv d n) := by
  induction d with
  | zero =>
    intro n acc h0 h1 ha
    refine Ev.step (f := fun _ => some (acc ++ uv 0 n)) (fun k => ?_) (Ev.now _)
    simp only [impl_AppendUvarint.l0, uv]
    rw [if_neg (by simp at h1; omega), if_pos (by omega)]
  | succ d ih =>
    intro n acc h0 h1 ha
    by_cases h : n > 127
    · have e : uv (d + 1) n = (Go.bits .or .i64 (Go.bits .and .i64 n 127) 128) % 256 :: uv d (n / 128) := by simp only [uv]; rw [if_pos h]
      rw [e, List.append_cons]
      refine Ev.step (f := fun k => impl_AppendUvarint.l0 k (n / 128) (acc ++ [(Go.bits .or .i64 (Go.bits .and .i64 n 127) 128) % 256])) (fun k => ?_) (ih (n / 128) (acc ++ [_]) (by omega) (by rw [Int.pow_succ] at h1; omega) (by simp; omega))
      simp only [impl_AppendUvarint.l0]
      rw [if_pos h, if_pos (by omega)]
    · have e : uv (d + 1) n = [n % 256] := by simp only [uv]; rw [if_neg h]
      rw [e]
      refine Ev.step (f := fun _ => some (acc ++ [n % 256])) (fun k => ?_) (Ev.now _)
      simp only [impl_AppendUvarint.l0]
      rw [if_neg h, if_pos (by omega)]

def auvOf (l : List Int) (n : Int) : List Int := if 0 ≤ n ∧ n ≤ 1000000000000 then l ++ uv 5 n else l
theorem auvOf_len (l : List Int) (n : Int) : l.length ≤ (auvOf l n).length ∧ (auvOf l n).length ≤ l.length + 6 := by
  unfold auvOf
  split
  · have := uv_len 5 n
    simp only [List.length_append]
    omega
  · omega
theorem implAuv_ev (l : List Int) (n : Int) (hl : l.length ≤ 16777200) : Ev (fun k => impl_AppendUvarint.f k l n) (auvOf l n) := by
  unfold impl_AppendUvarint.f
  simp only [clone_eq l (by omega), Option.bind_some, InRange_eq]
  unfold auvOf
  by_cases h : 0 ≤ n ∧ n ≤ 1000000000000
  · simp only [decide_eq_true h, if_true, if_pos h]
    exact implUv_l0 5 n l h.1 (by omega) (by omega)
  · simp only [decide_eq_false h, Bool.false_eq_true, if_false, if_neg h]
    exact Ev.now l

def abyOf (l x : List Int) : List Int := auvOf l (x.length : Int) ++ x
theorem implAby_ev (l x : List Int) (hl : l.length ≤ 8388608) (hx : x.length ≤ 8388500) : Ev (fun k => impl_AppendBytes.f k l x) (abyOf l x) := by
  unfold impl_AppendBytes.f
  refine Ev.bind (implAuv_ev l (x.length : Int) (by omega)) ?_
  have := auvOf_len l (x.length : Int)
  simp only [if_pos (show (auvOf l (x.length : Int)).length + x.length < 140737488355328 by omega)]
  exact Ev.now _

theorem or_small (i : Nat) (hi : i ≤ 42) (n c : Int) (h0 : 0 ≤ n) (h1 : n < 2 ^ i) (hc0 : 0 ≤ c) (hc1 : c < 128) : Go.bits .or .i64 n (c * 2 ^ i) = n + c * 2 ^ i := by
  have hcomm : Go.bits .or .i64 n (c * 2 ^ i) = Go.bits .or .i64 (c * 2 ^ i) n := by
    simp only [Go.bits, BitVec.or_comm]
  have hp : (0 : Int) < 2 ^ i := Int.pow_pos (by decide)
  have hle : (2 : Int) ^ i ≤ 2 ^ 42 := by exact_mod_cast Nat.pow_le_pow_right (by decide) hi
  have e42 : (2 : Int) ^ 42 = 4398046511104 := by decide
  have e62 : (2 : Int) ^ 62 = 4611686018427387904 := by decide
  have hb : c * 2 ^ i ≤ 127 * 4398046511104 := by
    have h2 : c * 2 ^ i ≤ 127 * 2 ^ i := Int.mul_le_mul_of_nonneg_right (by omega) (Int.le_of_lt hp)
    omega
  have hnn : 0 ≤ c * 2 ^ i := Int.mul_nonneg hc0 (Int.le_of_lt hp)
  rw [hcomm, Go.bits_join .i64 62 (by decide) (fun n h0 h1 => by rw [Go.IntKind.wrap_i64]; omega) i (c * 2 ^ i) n hnn (Int.mul_emod_left _ _) (by omega) h0 h1 (by omega)]
  omega
theorem shl_small' (i : Nat) (hi : i ≤ 42) (c : Int) (hc0 : 0 ≤ c) (hc1 : c < 128) : shl .i64 c (i : Int) = c * 2 ^ i := by
  unfold shl
  have hp : (0 : Int) < 2 ^ i := Int.pow_pos (by decide)
  have hle : (2 : Int) ^ i ≤ 2 ^ 42 := by exact_mod_cast Nat.pow_le_pow_right (by decide) hi
  have e42 : (2 : Int) ^ 42 = 4398046511104 := by decide
  have hb : c * 2 ^ i ≤ 127 * 4398046511104 := by
    have h2 : c * 2 ^ i ≤ 127 * 2 ^ i := Int.mul_le_mul_of_nonneg_right (by omega) (Int.le_of_lt hp)
    omega
  have hnn : 0 ≤ c * 2 ^ i := Int.mul_nonneg hc0 (Int.le_of_lt hp)
  have hm : min (i : Int).toNat IntKind.i64.bits = i := by
    have : IntKind.i64.bits = 64 := rfl
    rw [this, Int.toNat_natCast]
    omega
  rw [hm, Go.IntKind.wrap_i64]
  omega
theorem and127 (c : Int) (h0 : 0 ≤ c) (h1 : c < 256) : Go.bits .and .i64 c 127 = c % 128 := by
  have := Go.bits_mask .i64 62 (by decide) (fun n h0 h1 => by rw [Go.IntKind.wrap_i64]; have : (2 : Int) ^ 62 = 4611686018427387904 := by decide
                                                              omega) 7 (by decide) c h0 (by have : (2 : Int) ^ 62 = 4611686018427387904 := by decide
                                                                                            omega)
  simpa using this
/-- The varint at place p: from its i-th byte on, n being what has been read. -/
def ruv (l : List Int) (p : Nat) : Nat → Nat → Int → Int × Int × Bool
  | 0, _, _ => (0, 0, false)
  | d + 1, i, n =>
    if (l.length : Int) ≤ (p : Int) + i then (0, 0, false)
    else if rd l ((p + i : Nat) : Int) < 128 then
      (if (0 < i ∧ rd l ((p + i : Nat) : Int) = 0) ∨ n + rd l ((p + i : Nat) : Int) % 128 * 2 ^ (7 * i) > 1000000000000 then (0, 0, false)
       else (n + rd l ((p + i : Nat) : Int) % 128 * 2 ^ (7 * i), (p : Int) + i + 1, true))
    else ruv l p d (i + 1) (n + rd l ((p + i : Nat) : Int) % 128 * 2 ^ (7 * i))
def ruvOf (l : List Int) (a : Int) : Int × Int × Bool := if 0 ≤ a ∧ a < l.length then ruv l a.toNat 6 0 0 else (0, 0, false)
theorem rd_byte (l : List Int) (w : ∀ x ∈ l, (Lit.int .u8 x).wf = true) (p : Nat) (h : p < l.length) : 0 ≤ rd l (p : Int) ∧ rd l (p : Int) < 256 := by
  rw [rd_nat l p h]
  exact wf8 (w _ (List.getElem_mem h))
theorem pow7 (i : Nat) : (2 : Int) ^ (7 * (i + 1)) = 128 * 2 ^ (7 * i) := by
  rw [show 7 * (i + 1) = 7 * i + 7 from by omega, Int.pow_add, Int.mul_comm]
  rfl
theorem ruv_next (i : Nat) (n c : Int) (h0 : 0 ≤ n) (h1 : n < 2 ^ (7 * i)) : 0 ≤ n + c % 128 * 2 ^ (7 * i) ∧ n + c % 128 * 2 ^ (7 * i) < 2 ^ (7 * (i + 1)) := by
  have hp : (0 : Int) < 2 ^ (7 * i) := Int.pow_pos (by decide)
  have h2 : c % 128 * 2 ^ (7 * i) ≤ 127 * 2 ^ (7 * i) := Int.mul_le_mul_of_nonneg_right (by omega) (Int.le_of_lt hp)
  have h3 : 0 ≤ c % 128 * 2 ^ (7 * i) := Int.mul_nonneg (by omega) (Int.le_of_lt hp)
  rw [pow7]
  omega
theorem ruv_spec (l : List Int) (p : Nat) (d : Nat) : ∀ (i : Nat) (n : Int), 0 ≤ n → n < 2 ^ (7 * i) →
    (ruv l p d i n = (0, 0, false) ∨ ∃ m q : Int, ruv l p d i n = (m, q, true) ∧ 0 ≤ m ∧ m ≤ 1000000000000 ∧ (p : Int) < q ∧ q ≤ l.length) := by
  induction d with
  | zero => intro i n _ _; exact .inl rfl
  | succ d ih =>
    intro i n h0 h1
    simp only [ruv]
    have hn := ruv_next i n (rd l ((p + i : Nat) : Int)) h0 h1
    by_cases c1 : (l.length : Int) ≤ (p : Int) + i
    · rw [if_pos c1]; exact .inl rfl
    · rw [if_neg c1]
      by_cases c2 : rd l ((p + i : Nat) : Int) < 128
      · rw [if_pos c2]
        by_cases c3 : (0 < i ∧ rd l ((p + i : Nat) : Int) = 0) ∨ n + rd l ((p + i : Nat) : Int) % 128 * 2 ^ (7 * i) > 1000000000000
        · rw [if_pos c3]; exact .inl rfl
        · rw [if_neg c3]
          refine .inr ⟨_, _, rfl, hn.1, by omega, by omega, by omega⟩
      · rw [if_neg c2]
        exact ih (i + 1) _ hn.1 hn.2
theorem ruvOf_spec (l : List Int) (a : Int) : ruvOf l a = (0, 0, false) ∨ ∃ m q : Int, ruvOf l a = (m, q, true) ∧ 0 ≤ m ∧ m ≤ 1000000000000 ∧ 0 ≤ a ∧ a < q ∧ q ≤ l.length := by
  unfold ruvOf
  by_cases c : 0 ≤ a ∧ a < l.length
  · rw [if_pos c]
    rcases ruv_spec l a.toNat 6 0 0 (by decide) (by decide) with h | ⟨m, q, h, h1, h2, h3, h4⟩
    · exact .inl h
    · exact .inr ⟨m, q, h, h1, h2, c.1, by omega, h4⟩
  · rw [if_neg c]; exact .inl rfl

theorem at_eq (a b : Int) : impl_at.f a b = some (decide (0 ≤ a ∧ a < b)) := by
  unfold impl_at.f
  by_cases h : a ≥ 0
  · rw [if_pos h]; congr 1; by_cases h2 : a < b <;> simp [h2] <;> omega
  · rw [if_neg h]; congr 1; simp; omega
theorem implRuv_l0 (l : List Int) (hl : l.length ≤ 16777216) (w : ∀ x ∈ l, (Lit.int .u8 x).wf = true) (p : Nat) (hp : p < l.length) (d : Nat) : ∀ (i : Nat) (n : Int), i + d = 6 → 0 ≤ n → n < 2 ^ (7 * i) → Ev (fun k => impl_ReadUvarint.l0 k l (p : Int) n (i : Int)) (ruv l p d i n) := by
  induction d with
  | zero =>
    intro i n hd h0 h1
    refine Ev.step (f := fun _ => some (0, 0, false)) (fun k => ?_) (Ev.now _)
    simp only [impl_ReadUvarint.l0]
    rw [if_neg (by omega)]
  | succ d ih =>
    intro i n hd h0 h1
    have hpi : (p : Int) + i = ((p + i : Nat) : Int) := by omega
    have hw1 : wrap64 ((p : Int) + i) = ((p + i : Nat) : Int) := by rw [wrap_id (by omega) (by omega)]; omega
    by_cases c1 : (l.length : Int) ≤ (p : Int) + i
    · have e : ruv l p (d + 1) i n = (0, 0, false) := by simp only [ruv]; rw [if_pos c1]
      rw [e]
      refine Ev.step (f := fun _ => some (0, 0, false)) (fun k => ?_) (Ev.now _)
      simp only [impl_ReadUvarint.l0, hw1]
      rw [if_pos (by omega), if_pos (by omega)]
    · have hb := rd_byte l w (p + i) (by omega)
      have h7 : wrap64 (7 * (i : Int)) = ((7 * i : Nat) : Int) := by rw [wrap_id (by omega) (by omega)]; omega
      have hor : Go.bits .or .i64 n (shl .i64 (Go.bits .and .i64 (rd l ((p + i : Nat) : Int)) 127) ((7 * i : Nat) : Int)) = n + rd l ((p + i : Nat) : Int) % 128 * 2 ^ (7 * i) := by
        rw [and127 _ hb.1 hb.2, shl_small' (7 * i) (by omega) _ (by omega) (by omega), or_small (7 * i) (by omega) n _ h0 h1 (by omega) (by omega)]
      have hn := ruv_next i n (rd l ((p + i : Nat) : Int)) h0 h1
      by_cases c2 : rd l ((p + i : Nat) : Int) < 128
      · by_cases c3 : (0 < i ∧ rd l ((p + i : Nat) : Int) = 0) ∨ n + rd l ((p + i : Nat) : Int) % 128 * 2 ^ (7 * i) > 1000000000000
        · have e : ruv l p (d + 1) i n = (0, 0, false) := by simp only [ruv]; rw [if_neg c1, if_pos c2, if_pos c3]
          rw [e]
          refine Ev.step (f := fun _ => some (0, 0, false)) (fun k => ?_) (Ev.now _)
          simp only [impl_ReadUvarint.l0, hw1, h7]
          rw [if_pos (by omega), if_neg (by omega), if_pos (by omega), if_pos (by omega), if_pos (by omega), wrap_id (x := rd l ((p + i : Nat) : Int)) (by omega) (by omega), if_pos c2, hor]
          by_cases c4 : (i : Int) > 0
          · rw [if_pos c4]
            by_cases c5 : rd l ((p + i : Nat) : Int) = 0
            · rw [if_pos c5]
            · rw [if_neg c5, if_pos (by rcases c3 with c3 | c3; exact absurd c3.2 c5; exact c3)]
          · rw [if_neg c4, if_pos (by rcases c3 with c3 | c3; exact absurd c3.1 (by omega); exact c3)]
        · have e : ruv l p (d + 1) i n = (n + rd l ((p + i : Nat) : Int) % 128 * 2 ^ (7 * i), (p : Int) + i + 1, true) := by simp only [ruv]; rw [if_neg c1, if_pos c2, if_neg c3]
          rw [e]
          refine Ev.step (f := fun _ => some (n + rd l ((p + i : Nat) : Int) % 128 * 2 ^ (7 * i), (p : Int) + i + 1, true)) (fun k => ?_) (Ev.now _)
          simp only [impl_ReadUvarint.l0, hw1, h7]
          rw [if_pos (by omega), if_neg (by omega), if_pos (by omega), if_pos (by omega), if_pos (by omega), wrap_id (x := rd l ((p + i : Nat) : Int)) (by omega) (by omega), if_pos c2, hor, wrap_id (x := ((p + i : Nat) : Int) + 1) (by omega) (by omega), if_neg (fun h => c3 (.inr h)), hpi]
          by_cases c4 : (i : Int) > 0
          · rw [if_pos c4, if_neg (fun h => c3 (.inl ⟨by omega, h⟩))]
          · rw [if_neg c4]
      · have e : ruv l p (d + 1) i n = ruv l p d (i + 1) (n + rd l ((p + i : Nat) : Int) % 128 * 2 ^ (7 * i)) := by simp only [ruv]; rw [if_neg c1, if_neg c2]
        rw [e]
        refine Ev.step (f := fun k => impl_ReadUvarint.l0 k l (p : Int) (n + rd l ((p + i : Nat) : Int) % 128 * 2 ^ (7 * i)) ((i + 1 : Nat) : Int)) (fun k => ?_) (ih (i + 1) _ (by omega) hn.1 hn.2)
        simp only [impl_ReadUvarint.l0, hw1, h7]
        rw [if_pos (by omega), if_neg (by omega), if_pos (by omega), if_pos (by omega), if_pos (by omega), wrap_id (x := rd l ((p + i : Nat) : Int)) (by omega) (by omega), if_neg c2, hor, wrap_id (x := (i : Int) + 1) (by omega) (by omega)]
        rfl
theorem implRuv_ev (l : List Int) (a : Int) (hl : l.length ≤ 16777216) (w : ∀ x ∈ l, (Lit.int .u8 x).wf = true) : Ev (fun k => impl_ReadUvarint.f k l a) (ruvOf l a) := by
  unfold impl_ReadUvarint.f ruvOf
  simp only [at_eq, Option.bind_some]
  by_cases c : 0 ≤ a ∧ a < l.length
  · simp only [decide_eq_true c, if_true, if_pos c]
    have := implRuv_l0 l hl w a.toNat (by omega) 6 0 0 (by omega) (by omega) (by simp)
    rw [Int.toNat_of_nonneg c.1] at this
    exact this
  · simp only [decide_eq_false c, Bool.false_eq_true, if_false, if_neg c]
    exact Ev.now _

def rbOf (l : List Int) (a m : Int) : List Int × Int × Bool :=
  if (ruvOf l a).2.2 = true then (if (ruvOf l a).1 > m then ([], 0, false) else if (ruvOf l a).1 > (l.length : Int) - (ruvOf l a).2.1 then ([], 0, false)
    else ((l.take ((ruvOf l a).2.1 + (ruvOf l a).1).toNat).drop (ruvOf l a).2.1.toNat, (ruvOf l a).2.1 + (ruvOf l a).1, true)) else ([], 0, false)
theorem rbOf_len (l : List Int) (a m : Int) : (rbOf l a m).1.length ≤ l.length := by
  unfold rbOf
  split
  · split
    · simp
    · split
      · simp
      · simp only [List.length_drop, List.length_take]; omega
  · simp
theorem implRb_ev (l : List Int) (a m : Int) (hl : l.length ≤ 8388608) (w : ∀ x ∈ l, (Lit.int .u8 x).wf = true) : Ev (fun k => impl_ReadBytes.f k l a m) (rbOf l a m) := by
  unfold impl_ReadBytes.f
  refine Ev.bind (implRuv_ev l a (by omega) w) ?_
  rcases ruvOf_spec l a with h | ⟨n, q, h, h1, h2, h3, h4, h5⟩
  · have e : rbOf l a m = ([], 0, false) := by unfold rbOf; rw [h]; simp
    rw [e]
    simp only [h, Bool.false_eq_true, if_false]
    exact Ev.now _
  · have hw : wrap64 ((l.length : Int) - q) = (l.length : Int) - q := wrap_id (by omega) (by omega)
    have hw2 : wrap64 (q + n) = q + n := wrap_id (by omega) (by omega)
    unfold rbOf
    simp only [h, if_true, hw, hw2]
    by_cases c1 : n > m
    · simp only [if_pos c1]; exact Ev.now _
    · by_cases c2 : n > (l.length : Int) - q
      · simp only [if_neg c1, if_pos c2]; exact Ev.now _
      · have hc := clone_eq ((l.take (q + n).toNat).drop q.toNat) (by simp only [List.length_drop, List.length_take]; omega)
        simp only [if_neg c1, if_neg c2, if_pos (show 0 ≤ q by omega), if_pos (show q ≤ q + n by omega), if_pos (show q + n ≤ (l.length : Int) by omega), hc, Option.bind_some]
        exact Ev.now _

theorem implEnc_l0 (l : List Int) (hl : l.length ≤ 1048576) (d : Nat) : ∀ (i : Nat) (acc : List Int), l.length - i = d → acc.length + 6 * d ≤ 16000000 → Ev (fun k => impl_EncodeInts.l0 k acc l (l.length : Int) (i : Int)) ((l.drop i).foldl auvOf acc) := by
  induction d with
  | zero =>
    intro i acc hd ha
    rw [List.drop_eq_nil_of_le (by omega)]
    refine Ev.step (f := fun _ => some acc) (fun k => ?_) (Ev.now acc)
    simp only [impl_EncodeInts.l0]
    rw [if_neg (by omega)]
  | succ d ih =>
    intro i acc hd ha
    have h : i < l.length := by omega
    rw [drop_eq_cons l i h, List.foldl_cons]
    have hlen := auvOf_len acc l[i]
    refine Ev.step (f := fun k => (impl_AppendUvarint.f k acc l[i]).bind fun t => impl_EncodeInts.l0 k t l (l.length : Int) ((i + 1 : Nat) : Int)) (fun k => ?_) (Ev.bind (implAuv_ev acc l[i] (by omega)) (ih (i + 1) (auvOf acc l[i]) (by omega) (by omega)))
    simp only [impl_EncodeInts.l0]
    rw [if_pos (by omega), if_pos (by omega), if_pos (by omega), rd_nat l i h, wrap_id (x := (i : Int) + 1) (by omega) (by omega)]
    rfl

theorem enc_len (l : List Int) : ∀ acc : List Int, acc.length ≤ (l.foldl auvOf acc).length ∧ (l.foldl auvOf acc).length ≤ acc.length + 6 * l.length := by
  induction l with
  | nil => intro acc; simp
  | cons a l ih =>
    intro acc
    have h1 := ih (auvOf acc a)
    have h2 := auvOf_len acc a
    simp only [List.foldl_cons, List.length_cons]
    omega
theorem implEnc_ev (l : List Int) (hl : l.length ≤ 1048576) : Ev (fun k => impl_EncodeInts.f k l) (l.foldl auvOf []) := by
  unfold impl_EncodeInts.f
  exact implEnc_l0 l hl l.length 0 [] (by omega) (by simp; omega)

def di (l : List Int) : Nat → Int → List Int → List Int × Int × Bool
  | 0, a, acc => (acc, a, true)
  | d + 1, a, acc => if (ruvOf l a).2.2 = true then di l d (ruvOf l a).2.1 (acc ++ [(ruvOf l a).1]) else ([], 0, false)
def diOf (l : List Int) (a c : Int) : List Int × Int × Bool := if (0 ≤ c ∧ c ≤ 100) ∧ 0 ≤ a ∧ a ≤ l.length then di l c.toNat a [] else ([], 0, false)
theorem di_len (l : List Int) (d : Nat) : ∀ (a : Int) (acc : List Int), (di l d a acc).1.length ≤ acc.length + d := by
  induction d with
  | zero => intro a acc; simp [di]
  | succ d ih =>
    intro a acc
    simp only [di]
    split
    · have := ih (ruvOf l a).2.1 (acc ++ [(ruvOf l a).1])
      simp only [List.length_append, List.length_cons, List.length_nil] at this
      omega
    · simp
theorem diOf_len (l : List Int) (a c : Int) : (diOf l a c).1.length ≤ 100 := by
  unfold diOf
  split
  · have := di_len l c.toNat a []
    simp only [List.length_nil] at this
    omega
  · simp
theorem implDi_l0 (l : List Int) (hl : l.length ≤ 8388608) (w : ∀ x ∈ l, (Lit.int .u8 x).wf = true) (c : Nat) (hc : c ≤ 100) (d : Nat) : ∀ (i : Nat) (a : Int) (acc : List Int), i + d = c → 0 ≤ a → a ≤ l.length → acc.length = i → Ev (fun k => impl_DecodeInts.l0 k l a acc (c : Int) (i : Int)) (di l d a acc) := by
  induction d with
  | zero =>
    intro i a acc hd h0 h1 ha
    refine Ev.step (f := fun _ => some (acc, a, true)) (fun k => ?_) (Ev.now _)
    simp only [impl_DecodeInts.l0]
    rw [if_neg (by omega)]
  | succ d ih =>
    intro i a acc hd h0 h1 ha
    refine Ev.step (f := fun k => (impl_ReadUvarint.f k l a).bind fun t => if t.2.2 = true then (if acc.length < 17592186044416 then impl_DecodeInts.l0 k l t.2.1 (acc ++ [t.1]) (c : Int) ((i + 1 : Nat) : Int) else none) else some ([], 0, false)) (fun k => ?_) (Ev.bind (implRuv_ev l a (by omega) w) ?_)
    · simp only [impl_DecodeInts.l0]
      rw [if_pos (by omega), wrap_id (x := (i : Int) + 1) (by omega) (by omega)]
      rfl
    · simp only [di]
      rcases ruvOf_spec l a with h | ⟨n, q, h, h2, h3, h4, h5, h6⟩
      · simp only [h, Bool.false_eq_true, if_false]
        exact Ev.now _
      · simp only [h, if_true, if_pos (show acc.length < 17592186044416 by omega)]
        exact ih (i + 1) q (acc ++ [n]) (by omega) (by omega) h6 (by simp [ha])
theorem implDi_ev (l : List Int) (a c : Int) (hl : l.length ≤ 8388608) (w : ∀ x ∈ l, (Lit.int .u8 x).wf = true) : Ev (fun k => impl_DecodeInts.f k l a c) (diOf l a c) := by
  unfold impl_DecodeInts.f diOf
  simp only [InRange_eq, Option.bind_some]
  by_cases c1 : 0 ≤ c ∧ c ≤ 100
  · by_cases c2 : 0 ≤ a ∧ a ≤ (l.length : Int)
    · simp only [decide_eq_true c1, decide_eq_true c2, if_true, Bool.not_true, if_pos (And.intro c1 c2)]
      refine Ev.step (fun k => impl_DecodeInts.j0.eq_2 _ _ _ _ _) ?_
      simp only [Bool.false_eq_true, if_false]
      have := implDi_l0 l hl w c.toNat (by omega) c.toNat 0 a [] (by omega) c2.1 c2.2 rfl
      rw [Int.toNat_of_nonneg c1.1] at this
      exact this
    · simp only [decide_eq_true c1, decide_eq_false c2, if_true, Bool.not_false, if_neg (fun h : (0 ≤ c ∧ c ≤ 100) ∧ 0 ≤ a ∧ a ≤ (l.length : Int) => c2 h.2)]
      refine Ev.step (fun k => impl_DecodeInts.j0.eq_2 _ _ _ _ _) ?_
      simp only [if_true]
      exact Ev.now _
  · simp only [decide_eq_false c1, Bool.false_eq_true, if_false, if_neg (fun h : (0 ≤ c ∧ c ≤ 100) ∧ 0 ≤ a ∧ a ≤ (l.length : Int) => c1 h.1)]
    refine Ev.step (fun k => impl_DecodeInts.j0.eq_2 _ _ _ _ _) ?_
    simp only [if_true]
    exact Ev.now _

theorem rd_byte' (l : List Int) (w : ∀ x ∈ l, (Lit.int .u8 x).wf = true) (p : Nat) (h : p < l.length) : 0 ≤ rd l (p : Int) ∧ rd l (p : Int) < 256 := by
  rw [rd_nat l p h]
  exact wf8 (w _ (List.getElem_mem h))

theorem or128 (n : Int) (h0 : 0 ≤ n) (h1 : n < 9223372036854775808) : (Go.bits .or .i64 (Go.bits .and .i64 n 127) 128) % 256 = n % 128 + 128 := by
  have ha : Go.bits .and .i64 n 127 = n % 128 := by
    have := Go.bits_mask .i64 63 (by decide) (fun n h0 h1 => by rw [Go.IntKind.wrap_i64]; have e := (by decide : (2 : Int) ^ 63 = 9223372036854775808); omega) 7 (by decide) n h0 (by have e := (by decide : (2 : Int) ^ 63 = 9223372036854775808); omega)
    simpa using this
  have := or_small 7 (by decide) (n % 128) 1 (by omega) (by have e := (by decide : (2 : Int) ^ 7 = 128); omega) (by decide) (by decide)
  have e7 : (1 : Int) * 2 ^ 7 = 128 := by decide
  rw [e7] at this
  rw [ha, this]
  omega
theorem uv_small (d : Nat) (n : Int) (h0 : 0 ≤ n) (h : n ≤ 127) : uv d n = [n] := by
  cases d with
  | zero => simp only [uv]; congr 1; omega
  | succ d => simp only [uv]; rw [if_neg (by omega)]; congr 1; omega
theorem uv_big (d : Nat) (n : Int) (h : 127 < n) (h1 : n < 9223372036854775808) : uv (d + 1) n = (n % 128 + 128) :: uv d (n / 128) := by
  simp only [uv]
  rw [if_pos h, or128 n (by omega) h1]
theorem rd_drop (X : List Int) (j : Nat) (a : Int) (S : List Int) (h : X.drop j = a :: S) : j < X.length ∧ rd X (j : Int) = a ∧ X.drop (j + 1) = S := by
  have hj : j < X.length := by
    rcases Nat.lt_or_ge j X.length with h' | h'
    · exact h'
    · rw [List.drop_eq_nil_of_le h'] at h; cases h
  have h2 := List.drop_eq_getElem_cons hj
  rw [h] at h2
  injection h2 with h3 h4
  exact ⟨hj, by rw [rd_nat X j hj, h3], h4.symm⟩
/-- What was encoded is read back. -/
theorem ruv_uv (X : List Int) (p : Nat) (d : Nat) : ∀ (i : Nat) (n acc : Int) (S : List Int), X.drop (p + i) = uv d n ++ S → 0 ≤ n → n < 128 ^ (d + 1) → n < 9223372036854775808 → (0 < i → 0 < n) → 0 ≤ acc → acc + n * 2 ^ (7 * i) ≤ 1000000000000 →
    ruv X p (d + 1) i acc = (acc + n * 2 ^ (7 * i), (p : Int) + i + (uv d n).length, true) := by
  induction d with
  | zero =>
    intro i n acc S hX h0 h1 h2 hi ha hb
    have hn : n ≤ 127 := by simp at h1; omega
    rw [uv_small 0 n h0 hn] at hX ⊢
    obtain ⟨hj, hr, _⟩ := rd_drop X (p + i) n S hX
    have hm : n % 128 = n := by omega
    simp only [ruv, hr, hm]
    rw [if_neg (by omega), if_pos (by omega), if_neg (fun h => by
      rcases h with ⟨h3, h4⟩ | h
      · have := hi h3; omega
      · omega)]
    simp
  | succ d ih =>
    intro i n acc S hX h0 h1 h2 hi ha hb
    by_cases hn : n ≤ 127
    · rw [uv_small (d + 1) n h0 hn] at hX ⊢
      obtain ⟨hj, hr, _⟩ := rd_drop X (p + i) n S hX
      have hm : n % 128 = n := by omega
      simp only [ruv, hr, hm]
      rw [if_neg (by omega), if_pos (by omega), if_neg (fun h => by
        rcases h with ⟨h3, h4⟩ | h
        · have := hi h3; omega
        · omega)]
      simp
    · rw [uv_big d n (by omega) h2] at hX ⊢
      obtain ⟨hj, hr, hX'⟩ := rd_drop X (p + i) _ _ hX
      have e : ruv X p (d + 1 + 1) i acc = ruv X p (d + 1) (i + 1) (acc + (n % 128 + 128) % 128 * 2 ^ (7 * i)) := by
        rw [ruv, hr]
        rw [if_neg (by omega), if_neg (by omega)]
      have hm : (n % 128 + 128) % 128 = n % 128 := by omega
      rw [hm] at e
      have hp := pow7 i
      have hpp : (0 : Int) < 2 ^ (7 * i) := Int.pow_pos (by decide)
      have hs : acc + n % 128 * 2 ^ (7 * i) + n / 128 * 2 ^ (7 * (i + 1)) = acc + n * 2 ^ (7 * i) := by
        rw [hp, ← Int.mul_assoc, Int.add_assoc, ← Int.add_mul]
        congr 2
        omega
      have h3 := ih (i + 1) (n / 128) (acc + n % 128 * 2 ^ (7 * i)) S hX' (by omega) (by rw [Int.pow_succ] at h1; omega) (by omega) (fun _ => by omega) (by have := Int.mul_nonneg (a := n % 128) (b := 2 ^ (7 * i)) (by omega) (Int.le_of_lt hpp); omega) (by omega)
      rw [e, h3, hs]
      simp only [List.length_cons]
      congr 2
      omega
theorem ruvOf_uv (P S : List Int) (n : Int) (h0 : 0 ≤ n) (h1 : n ≤ 1000000000000) : ruvOf (P ++ uv 5 n ++ S) (P.length : Int) = (n, (P.length : Int) + ((uv 5 n).length : Int), true) := by
  have hpos : 0 < (uv 5 n).length := by
    by_cases hn : n ≤ 127
    · rw [uv_small 5 n h0 hn]; simp
    · rw [uv_big 4 n (by omega) (by omega)]; simp
  unfold ruvOf
  rw [if_pos ⟨by omega, by simp only [List.length_append]; omega⟩, Int.toNat_natCast]
  have := ruv_uv (P ++ uv 5 n ++ S) P.length 5 0 n 0 S (by rw [Nat.add_zero, List.append_assoc, List.drop_left]) h0 (by omega) (by omega) (fun h => by omega) (by omega) (by simp; omega)
  rw [this]
  simp

def fold3 (l : List Int) : List Int := l.foldl auvOf []
theorem auvOf_in (l : List Int) (n : Int) (h : 0 ≤ n ∧ n ≤ 1000000000000) : auvOf l n = l ++ uv 5 n := by unfold auvOf; rw [if_pos h]
theorem fold_pre (l : List Int) (w : ∀ x ∈ l, 0 ≤ x ∧ x ≤ 1000000000000) : ∀ acc : List Int, ∃ S, l.foldl auvOf acc = acc ++ S := by
  induction l with
  | nil => intro acc; exact ⟨[], by simp⟩
  | cons a l ih =>
    intro acc
    obtain ⟨S, h⟩ := ih (fun x hx => w x (by simp [hx])) (auvOf acc a)
    refine ⟨uv 5 a ++ S, ?_⟩
    rw [List.foldl_cons, h, auvOf_in acc a (w a (by simp)), List.append_assoc]
/-- Integers that were encoded are decoded one after the other; at the end nothing is left to be read. -/
theorem di_fold (X : List Int) (l : List Int) (w : ∀ x ∈ l, 0 ≤ x ∧ x ≤ 1000000000000) : ∀ (P acc : List Int), l.foldl auvOf P = X → di X l.length (P.length : Int) acc = (acc ++ l, (X.length : Int), true) ∧ (di X (l.length + 1) (P.length : Int) acc).2.2 = false := by
  induction l with
  | nil =>
    intro P acc h
    simp only [List.foldl_nil] at h
    subst h
    have hr : ruvOf P (P.length : Int) = (0, 0, false) := by unfold ruvOf; rw [if_neg (by omega)]
    constructor
    · simp [di]
    · simp only [List.length_nil, di]
      rw [hr]
      simp
  | cons a l ih =>
    intro P acc h
    rw [List.foldl_cons] at h
    obtain ⟨S, hS⟩ := fold_pre l (fun x hx => w x (by simp [hx])) (auvOf P a)
    have ha := w a (by simp)
    have hX : X = P ++ uv 5 a ++ S := by rw [← h, hS, auvOf_in P a ha]
    have hr : ruvOf X (P.length : Int) = (a, ((auvOf P a).length : Int), true) := by
      rw [hX, ruvOf_uv P S a ha.1 ha.2, auvOf_in P a ha, List.length_append]
      congr 2
    have h2 := ih (fun x hx => w x (by simp [hx])) (auvOf P a) (acc ++ [a]) h
    constructor
    · simp only [List.length_cons, di, hr, if_true]
      rw [h2.1, List.append_assoc]
      rfl
    · have e : di X ((a :: l).length + 1) (P.length : Int) acc = di X (l.length + 1) ((auvOf P a).length : Int) (acc ++ [a]) := by
        rw [List.length_cons, di, hr, if_pos rfl]
      rw [e]
      exact h2.2
theorem auv_bytes (l : List Int) (n : Int) (w : ∀ x ∈ l, (Lit.int .u8 x).wf = true) : ∀ x ∈ auvOf l n, (Lit.int .u8 x).wf = true := by
  unfold auvOf
  split
  · intro x hx
    rcases List.mem_append.1 hx with hx | hx
    · exact w x hx
    · have := uv_byte 5 n x hx
      exact to_wf8 this.1 this.2
  · exact w
theorem fold_bytes (l : List Int) : ∀ acc : List Int, (∀ x ∈ acc, (Lit.int .u8 x).wf = true) → ∀ x ∈ l.foldl auvOf acc, (Lit.int .u8 x).wf = true := by
  induction l with
  | nil => intro acc h; exact h
  | cons a l ih => intro acc h; rw [List.foldl_cons]; exact ih _ (auv_bytes acc a h)
theorem rb_aby (b x : List Int) (hx : x.length ≤ 1000) : rbOf (abyOf b x) (b.length : Int) (x.length : Int) = (x, ((abyOf b x).length : Int), true) ∧ (rbOf (abyOf b x) (b.length : Int) ((x.length : Int) - 1)).2.2 = false := by
  have ha : abyOf b x = b ++ uv 5 (x.length : Int) ++ x := by unfold abyOf; rw [auvOf_in b _ ⟨by omega, by omega⟩]
  have hr := ruvOf_uv b x (x.length : Int) (by omega) (by omega)
  rw [← ha] at hr
  have hl : (abyOf b x).length = b.length + (uv 5 (x.length : Int)).length + x.length := by rw [ha]; simp only [List.length_append]
  constructor
  · unfold rbOf
    rw [hr]
    simp only [if_true]
    rw [if_neg (by omega), if_neg (by omega)]
    have e1 : ((b.length : Int) + ((uv 5 (x.length : Int)).length : Int) + (x.length : Int)).toNat = (abyOf b x).length := by omega
    have e2 : ((b.length : Int) + ((uv 5 (x.length : Int)).length : Int)).toNat = (b ++ uv 5 (x.length : Int)).length := by rw [List.length_append]; omega
    rw [e1, List.take_length, e2, ha, List.drop_left]
    congr 2
    rw [← ha]
    omega
  · unfold rbOf
    rw [hr]
    simp only [if_true]
    rw [if_pos (by omega)]
theorem at_ok (l : List Int) (hl : l.length ≤ 1048576) (w : ∀ x ∈ l, (Lit.int .u8 x).wf = true) (i : Nat) (hi : i ≤ 100) : ∃ x, laws_at.f l (i : Int) = some x ∧ 0 ≤ x ∧ x ≤ 255 := by
  unfold laws_at.f
  by_cases c : (i : Int) < (l.length : Int)
  · rw [if_pos c, if_pos (by omega)]
    have := rd_byte' l w i (by omega)
    rw [wrap_id (by omega) (by omega)]
    exact ⟨_, rfl, by omega, by omega⟩
  · rw [if_neg c, wrap_id (x := (i : Int) * 31) (by omega) (by omega), wrap_id (x := (l.length : Int) * 7) (by omega) (by omega), wrap_id (by omega) (by omega), Int.tmod_eq_emod_of_nonneg (by omega)]
    exact ⟨_, rfl, by omega, by omega⟩

theorem bs_l0 (l0 : List Int) (hl : l0.length ≤ 1048576) (w : ∀ x ∈ l0, (Lit.int .u8 x).wf = true) (n : Nat) (t0 : Int) (ht : laws_at.f l0 0 = some t0) (h0 : 0 ≤ t0) (hn : Int.tmod t0 6 = (n : Int)) (hn5 : n ≤ 5) (d : Nat) : ∀ (i : Nat) (acc : List Int), i + d = n → acc.length = i → (∀ x ∈ acc, 0 ≤ x ∧ x ≤ 1000000000000) → Ev (fun k => laws_FnByteStrings.l0 k l0 acc (i : Int)) true := by
  induction d with
  | zero =>
    intro i acc hd ha hw
    refine Ev.step (fun k => laws_FnByteStrings.l0.eq_2 _ _ _ _) ?_
    simp only [ht, Option.bind_some, hn, if_neg (show ¬ ((i : Int) < (n : Int)) by omega)]
    have hb := fold_bytes acc [] (by simp)
    have hlen := enc_len acc []
    simp only [List.length_nil] at hlen
    have h2 := di_fold (acc.foldl auvOf []) acc hw [] [] rfl
    simp only [List.nil_append, List.length_nil] at h2
    have d1 : diOf (acc.foldl auvOf []) 0 (acc.length : Int) = (acc, ((acc.foldl auvOf []).length : Int), true) := by
      unfold diOf
      rw [if_pos ⟨⟨by omega, by omega⟩, by omega, by omega⟩, Int.toNat_natCast]
      exact h2.1
    have d2 : (diOf (acc.foldl auvOf []) 0 ((acc.length : Int) + 1)).2.2 = false := by
      unfold diOf
      rw [if_pos ⟨⟨by omega, by omega⟩, by omega, by omega⟩]
      exact h2.2
    refine Ev.bind (implEnc_ev acc (by omega)) ?_
    refine Ev.bind (implDi_ev (acc.foldl auvOf []) 0 (acc.length : Int) (by omega) hb) ?_
    rw [wrap_id (x := (acc.length : Int) + 1) (by omega) (by omega)]
    refine Ev.bind (implDi_ev (acc.foldl auvOf []) 0 ((acc.length : Int) + 1) (by omega) hb) ?_
    simp only [d1, d2, if_true]
    refine Ev.bind (sameInts_self acc (by omega)) ?_
    simp only [if_true, Bool.not_false]
    exact Ev.now true
  | succ d ih =>
    intro i acc hd ha hw
    obtain ⟨x, ex, x0, x1⟩ := at_ok l0 hl w (i + 1) (by omega)
    obtain ⟨y, ey, y0, y1⟩ := at_ok l0 hl w (i + 2) (by omega)
    obtain ⟨z, ez, z0, z1⟩ := at_ok l0 hl w (i + 3) (by omega)
    have ex' : laws_at.f l0 ((i : Int) + 1) = some x := ex
    have ey' : laws_at.f l0 ((i : Int) + 2) = some y := ey
    have ez' : laws_at.f l0 ((i : Int) + 3) = some z := ez
    have m0 : 0 ≤ x * y := Int.mul_nonneg x0 y0
    have m1 : x * y ≤ 255 * 255 := Int.mul_le_mul (by omega) (by omega) y0 (by decide)
    have m2 : 0 ≤ x * y * z := Int.mul_nonneg m0 z0
    have m3 : x * y * z ≤ 65025 * 255 := Int.mul_le_mul (by omega) (by omega) z0 (by decide)
    refine Ev.step (f := fun k => laws_FnByteStrings.l0 k l0 (acc ++ [x * y * z]) ((i + 1 : Nat) : Int)) (fun k => ?_) (ih (i + 1) (acc ++ [x * y * z]) (by omega) (by simp [ha]) fun u hu => by
      rcases List.mem_append.1 hu with hu | hu
      · exact hw u hu
      · rw [List.mem_singleton.1 hu]; omega)
    simp only [laws_FnByteStrings.l0]
    rw [ht]
    simp only [Option.bind_some, hn, if_pos (show (i : Int) < (n : Int) by omega)]
    rw [wrap_id (x := (i : Int) + 1) (by omega) (by omega), wrap_id (x := (i : Int) + 2) (by omega) (by omega), wrap_id (x := (i : Int) + 3) (by omega) (by omega), ex', ey', ez']
    simp only [Option.bind_some]
    rw [if_pos (by omega), wrap_id (x := x * y) (by omega) (by omega), wrap_id (x := x * y * z) (by omega) (by omega)]
    rfl
theorem FnByteStrings : laws_FnByteStrings.Pure := by
  intro l0 _ _ w0
  refine Ev.rounds ?_
  unfold laws_FnByteStrings.f
  simp only [big_eq, Option.bind_some]
  by_cases cb : (l0.length : Int) > 1048576
  · simp only [decide_eq_true cb, if_true]; exact Ev.now true
  have b_l0 : l0.length ≤ 1048576 := by omega
  simp only [decide_eq_false cb, Bool.false_eq_true, if_false]
  obtain ⟨h1, e1⟩ := l1New_ev l0 b_l0
  obtain ⟨n, s2, h2, e2, n0, n1, c2⟩ := l1Below_ok l0 b_l0 0 h1 3 (cur0 l0)
  have n2 := n1 (by decide)
  obtain ⟨b, s3, h3, e3, hb, wb, c3⟩ := l1Bytes_ev l0 b_l0 s2 h2 n n0 (by omega) c2
  obtain ⟨m, s4, h4, e4, m0, m1, c4⟩ := l1Below_ok l0 b_l0 s3 h3 6 c3
  have m2 := m1 (by decide)
  obtain ⟨x, s5, h5, e5, hx, wx, c5⟩ := l1Bytes_ev l0 b_l0 s4 h4 m m0 (by omega) c4
  have hd : Ev (fun k => spec_DrawAppendBytes.f k l0) (b, x) := by
    unfold spec_DrawAppendBytes.f
    refine Ev.bind e1 ?_
    simp only [e2, Option.bind_some]
    refine Ev.bind e3 ?_
    simp only [e4, Option.bind_some]
    exact Ev.bind e5 (Ev.now _)
  refine Ev.bind hd ?_
  refine Ev.bind (implAby_ev b x (by omega) (by omega)) ?_
  have hlen := auvOf_len b (x.length : Int)
  have hal : (abyOf b x).length ≤ 8388608 := by unfold abyOf; rw [List.length_append]; omega
  have hwb : ∀ y ∈ abyOf b x, (Lit.int .u8 y).wf = true := by
    intro y hy
    unfold abyOf at hy
    rcases List.mem_append.1 hy with hy | hy
    · exact auv_bytes b _ wb y hy
    · exact wx y hy
  refine Ev.bind (implRb_ev (abyOf b x) (b.length : Int) (x.length : Int) hal hwb) ?_
  rw [wrap_id (x := (x.length : Int) - 1) (by omega) (by omega)]
  refine Ev.bind (implRb_ev (abyOf b x) (b.length : Int) ((x.length : Int) - 1) hal hwb) ?_
  have hrb := rb_aby b x (by omega)
  simp only [hrb.1, hrb.2, if_true]
  refine Ev.bind (sameBytes_self x (by omega)) ?_
  simp only [if_true]
  refine Ev.step (fun k => laws_FnByteStrings.j0.eq_2 _ _ _) ?_
  simp only [Bool.false_eq_true, if_false]
  obtain ⟨t0, ht, t1, t2⟩ := at_ok l0 b_l0 w0 0 (by omega)
  have ht' : laws_at.f l0 0 = some t0 := ht
  have hm : Int.tmod t0 6 = ((Int.tmod t0 6).toNat : Int) := by
    rw [Int.tmod_eq_emod_of_nonneg t1]
    omega
  exact bs_l0 l0 b_l0 w0 (Int.tmod t0 6).toNat t0 ht' t1 hm (by rw [Int.tmod_eq_emod_of_nonneg t1]; omega) (Int.tmod t0 6).toNat 0 [] (by omega) rfl (by simp)

end Go.Proofs.Ytneiadniopmcnaa.Pure
